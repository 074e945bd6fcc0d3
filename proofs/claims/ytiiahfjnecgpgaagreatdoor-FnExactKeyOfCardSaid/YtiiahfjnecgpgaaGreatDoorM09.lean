/- A part of the proof about KeyOf. No condition. -/
import Derived.OwnWalkIn
import Derived.TacticsInMore
import Derived.LoopNIn
import Derived.LoopIn
import Derived.Test.YtiiahfjnecgpgaaGreatDoorM01
import Derived.Test.YtiiahfjnecgpgaaGreatDoorM03
import Derived.Test.YtiiahfjnecgpgaaGreatDoorM04
import Derived.Test.YtiiahfjnecgpgaaGreatDoorM05
import Derived.Test.YtiiahfjnecgpgaaGreatDoorM08
set_option maxRecDepth 100000
set_option maxHeartbeats 8000000
set_option linter.unusedSimpArgs false
set_option linter.unusedVariables false
set_option linter.defProp false
open Go.Proofs.Tryz
open Go.Proofs (enters_of)
open Go.Proofs.Tryz renaming prog->aB
open Go renaming maxLen->ao,Program->ay,FuncId->bK,wp_region_list->i6,Oper->da,TypeId->aQ,Value->aE,Func->iw
open Option renaming some->E,none->aa
open Bool renaming false->al,true->ad
open Nat renaming reduceEqDiff->aP
open Go.IntWalk renaming i64_in->cW
namespace Go.Fw
noncomputable section
attribute [local irreducible] St.put
section
open Classical
variable {g3:ay}{ce:St}{g5:bK}{i0:ON}{gc:aU}
def Cc{d bs:DL}(l:gx g3 ce g5 bs i0 gc)(o:d.length=bs.length)(p:∀(a:Nat)(b e:D),d[a]?=E b->bs[a]?=E e->fj b e):gx g3 ce g5 d i0 gc:=by
 intro t h k i s j q vs u m;refine l t h k i s j q vs Zo λa b v f r=>?_;have g:a<d.length:=by rw[o];exact(ej.1 f).1
 exact p a _ b (bR g) f _ _ (m a _ v (bR g) r)
abbrev LT:aD:=[19,21,126,137,147]
structure LS (ab:List ai) (ds:List ah) (a:List Nat) (H0:Nat->Option Ob) (e gm:Nat) (dX:List Rt) (b:List i_):Prop where
 st:ja ab ds (TD 0) H0 e gm dX (b.map λr=>r.2.1.id) (b.map dJ)
 m19:19∈a
 m21:21∈a
 sub:∀t∈a,t∈LT
 cD:∀t∈a,∀ob,H0 t=E ob->∀d∈ob.cells,In a d
 nd:(b.map λr=>r.2.1.id).Nodup
abbrev nB(ab:aw)(ds:aF)(a:aD)(H0:bt)(b:Nat)(x:Nd)(vars:aX)(m:Nat):Prop:=
 i' aB a H0 84 [.rf 21 b 0,x.d,cT vars] (po (iW ab ds x (ids vars) m) (10000000*x.num))
abbrev lW(k:Int)(n:BA)(ns:aK)(vars bs:aX)(i:Nat):aX:=if bN k n ns i=[]then vars else vars++bs
variable {a0:Int}{dg:BA}{he:aK}{i3:aX}{h:Nat}
def Ng{bs:aX}:ids (lW a0 dg he i3 bs h)=if bN a0 dg he h=[]then ids i3 else ids i3++ids bs:=by
 unfold lW;split<;>simp[ids]
variable {a4:aw}{V:Nat}{AC:List Rt}{WP:List i_}{hw:a_}{v2:dv}{z2:Option Bi}
def TG{j:aF}{i:aD}{g:bt}(r:LS a4 j i g h V AC WP)(ay:j.length<=1000)
 {id:Nat} {v:Int} {k:BA} {a y:O} {u:Int} {bs l:aX} {I:Nat} (F:dp y) (S:∀b,z2=E b->b.id∈ids l/\dp b.e.t) (ae:l.length<=1000000):
 nB a4 j i g h (.mk id (.mk 1 v k a he hw) y u v2 bs z2) l I:=by
 obtain⟨⟨aH,aL,aJ,aG,P,-⟩,av,-⟩:=r.st;have ab:=r.sub;have ak:=r.m21;have X:=wX a4 j k iM;obtain⟨J,L,K⟩:=a;obtain⟨o,q,p⟩:=y;have az:1<=(Nd.mk id (.mk 1 v k (.mk J L K) he hw) (.mk o q p) u v2 bs z2).num:=by rw[Nd.num];omega
 generalize R:10000000*(Nd.mk id (.mk 1 v k (.mk J L K) he hw) (.mk o q p) u v2 bs z2).num=aq at*;unfold nB;rw[R];refine i'.eo [] [.cell 6 125] func84 A Zk ntmps84 A Zs ?_ λaE ap an=>?_
 .exact r.cD
 have z:∀a∈i,bi i g a=g a:=λa f=>by simp[bi,f]
 have Q:=(z 21 ak).trans P;have D:∀(s:bt),(∀a,a≠6->s a=bi i g a)->∀a∈i,s a=g a:=λs M a f=>by rw[M a (by have:=ab a f;simp at this;omega),z a f]
 generalize bi i g=am at*;simp only[Nd.d,Nd.gJ,go_sem];rw[iW];simp only[x9,aI];cases z2 with
 |some b=>
  obtain⟨U,C⟩:=S b A;obtain⟨aB,I,aC,ar,au,ax,B⟩:=Bi.vw b;have G:=Ni l b U ae C;have W:=Bi.cl b;have w:=ig _ C;rw[B]at G W;generalize cf b.e.t=m at*;simp only[bd,B,go_sem];refine bw G ?_;simp only[aW,dw,go_sem];exact⟨Cl.bu (dF ⟨dw (gf (ids l) b.id:Nat),[m]⟩),⟨⟨dw (gf (ids l) b.id:Nat),[m]⟩,A,A,Zs,by simp;omega,by simp[w]⟩,D _ λa f=>by simp[f]⟩
 |none=>
  have Z:=made 11 (dh j k) [] (.mk o q p) [] F Zs Zs Zs (.inl A);have w:=ig _ F;generalize cf (.mk o q p)=m at*;simp only[bd,go_sem];refine mc [0,1,2,3,4,5,6,7,8,11,12,13,14,9,10,15,16] [21] [] ?_;simp only[Q,go_sem];refine hU X (l9) ?_;simp only[go_sem];refine fm [] Z (.c Fz.tk (.c (.cl _ (Cl.bu (O.cl (.mk o q p)))) (.c (.nil 5) .n))) (Cl.bu (dF _)) ?_;simp only[aW,aN,fX,go_sem];exact⟨Cl.bu (dF ⟨.mk 11 (dh j k) [] [],[m]⟩),⟨⟨.mk 11 (dh j k) [] [],[m]⟩,A,A,Zs,by simp;omega,by simp[w]⟩,D _ λa f=>by simp[aj,f,aN]⟩
variable {s1:bM}{go:O}
def fl.kids{a:List bQ}{k v:Int}{d:IL}{m:Nat}(b:a.map bQ.c=s1)(f:(a.map λg=>g.ty.length).sum+1<=m)(e:dp go):fl (.mk k v d s1) m ⟨.mk k v d (a.map bQ.c),go::(a.map bQ.ty).flatten⟩:=by
 refine⟨by rw[b],Zs,?_,by simp[e]⟩;rw[di,yi,dZ];exact f
variable {hu:St}
def two{G:aU}(a:aU)(b:∀d,a d->G d)(e:a ce)(f:a hu):G ce/\G hu:=⟨b _ e,b _ f⟩
def O_(l:aX)(a:l.length<=ao):au 136 [.sl 1 (aq Bi.d l)] (.cs 1 (aq Bi.d l)):=by
 refine Sp.e [] [.tmp 2] func136 ntmps136 ?_;exact FR
def TH{j:aw}{M:aF}{LL:aD}{H0:bt}{P aY:Nat}(X:LS j M LL H0 P aY AC WP)(bl:j.length<=1000)(a0:∀d∈j,(ai.cs d).length<=1000)
 {id:Nat} {k v:Int} {n:BA} {t ak:O} {ns:aK} {u:a_} {C:Int} {g:dv} {bs vars:aX} {D:Option Bi} {m:Nat} (bm:2<=k/\k<=8) (ae:dp ak) (bq:vars.length<=1000000) (s_:bs.length<=1000000) (bn:g.length<=1000) (JC:∀i,bN k n ns i≠[]->bs≠[])
 (bo:(Nd.mk id (.mk k v n t ns u) ak C g bs D).num<=100000)
 (qz:∀(i:Nat)(h:i<g.length),nB j M LL H0 P g[i] (lW k n ns vars bs i) (cj k (g.map Nd.aZ) m i)):
 nB j M LL H0 P (.mk id (.mk k v n t ns u) ak C g bs D) vars m:=by
 obtain⟨⟨br,bz,bv,rows,W,-⟩,bj,-⟩:=X.st;have a4:=X.sub;have a5:=X.m21;have a1:=uV j n Zo λd hd=>by have:=a0 d hd;omega
 obtain⟨J,L,K⟩:=t;obtain⟨o,s,p⟩:=ak;have QO:=λi=>B5 k v n J L K ns u i;have bk:Cl (.ag (Y.ds (.mk k v n (.mk J L K) ns u))):=Cl.bu (Y.cl _);have aJ:au 133 [I k] (I k):=by
  have:=PB k;by_cases am:k=8
  .subst am;exact this
  .rwa[aM Zo]at this
 have f1:(k==1)=al:=by simp;omega
 have f9:(k==9)=al:=by simp;omega
 have f11:(k==11)=al:=by simp;omega
 obtain⟨R,JM⟩:∃R:Nat->Core,∀(i:Nat)(h:i<g.length),R i=iW j M g[i] (ids (lW k n ns vars bs i)) (cj k (g.map Nd.aZ) m i):=
  ⟨λi=>if h:i<g.length then iW j M g[i] (ids (lW k n ns vars bs i)) (cj k (g.map Nd.aZ) m i)else dw 0,λi h=>by simp only[dif_pos h]⟩
 have hr:iW j M (.mk id (.mk k v n (.mk J L K) ns u) (.mk o s p) C g bs D) (ids vars) m=.mk k (k5 j k v n) [] ((List.range g.length).map R):=by
  rw[iW];simp only[x9];rw[av Zo,av Zo,A0,Nd.px,bW];congr 1;refine gX λi Z=>?_;have Z:i<g.length:=by simpa using Z
  unfold sg;rw[getD_map Z,JM i Z,Ng]
 have ab:∀q,Nd.aR (g.take q)+1<=(Nd.mk id (.mk k v n (.mk J L K) ns u) (.mk o s p) C g bs D).num:=λq=>by
  rw[Nd.num];have:∀(B:dv)(q:Nat),Nd.aR (B.take q)<=Nd.aR B:=λB=>by
   induction B with
   |nil=>intro q;simp
   |cons c aU ay=>
    intro q;cases q with
    |zero=>simp[Nd.aR]
    |succ q=>rw[ix,Nd.aR,Nd.aR];have:=ay q;omega
  have:=this g q;omega
 have Q2:∀(q:Nat)(h:q<g.length),Nd.aR (g.take (q+1))=Nd.aR (g.take q)+g[q].num:=λq h=>by
  have:∀B az,Nd.aR (B++[az])=Nd.aR B+az.num:=λB az=>by
   induction B with
   |nil=>simp[Nd.aR]
   |cons c aU ay=>rw[bf,Nd.aR,ay,Nd.aR];omega
  rw[ch h,this]
 unfold nB;rw[hr];generalize (Nd.mk id (.mk k v n (.mk J L K) ns u) (.mk o s p) C g bs D).num=aE at*;have jL:cy aB 121=E (125,5,88):=Zk;refine i'.eo [1000179,1000185] [.cell 6 125] func84 A Zk ntmps84 A Zs ?_ λl aS aQ=>?_
 .exact X.cD
 have QK:∀t∈LL,bi LL H0 t=H0 t:=λt ht=>by simp[bi,ht]
 have nT:∀t∈LL,t≠6/\t≠12/\t≠173/\t≠178/\t≠184/\t≠185:=λt ht=>by have:=a4 t ht;simp at this;omega
 generalize bi LL H0=be at*;simp only[Nd.d,Nd.gJ,f1,f9,f11,go_sem];refine me (.bE [0,1,2,3,4,6,7,8,9,10] 5 (.fin [11,12,13]) 12 (.fin [5,11,13])) [] [] ?_;simp only[go_sem];refine And.imp (λh=>hU aJ l9 h) (λh=>hU aJ l9 h) ?_;simp only[go_sem];refine two (G:=oO _ _ _) (kq 194 aQ aS [(0,.rf 21 P 0),(1,(Nd.mk id (.mk k v n (.mk J L K) ns u) (.mk o s p) C g bs D).d),(2,cT vars),(6,.rf 6 (l 6) 0),(12,.rf 12 (l 12) 0)] λw H=>(∃c6,H 6=E ⟨l 6,125,5,c6,aa⟩/\c6.length=5)/\H 12=E ⟨l 12,81,4,[I k,I v,a',a'],aa⟩/\∀t∈LL,H t=H0 t) ?_ ?_ ?_
 .rintro⟨w,H,n',aL,V,U⟩⟨rfl,rfl,rfl,F,⟨c6,h6,C5⟩,oU,mh⟩;simp only[a7]at F h6 oU mh;obtain⟨e0,e1,e2,e6,rJ,-⟩:=F;have W:=(mh 21 a5).trans W;simp only[Nd.d,Y.ds,O.ds,bf,a8,Nd.gJ]at e1;refine aT (λh=>?_) λh=>?_
  .have am:k=8:=by simpa using h
   simp only[e0,e1,W,go_sem];refine Cv [21] [] mixed Zk ?_;simp only[e0,e1,W,go_sem];refine bw a1 ?_;simp only[e1,rJ,oU,go_sem];refine hC 158 g.length (λq=>kq 194 U V [(0,.rf 21 P 0),(1,(Nd.mk id (.mk k v n (.mk J L K) ns u) (.mk o s p) C g bs D).d),(2,cT vars),(6,.rf 6 (l 6) 0),(12,.rf 12 (l 12) 0),(156,.sl 1 (aq Nd.d g)),(157,I g.length)] λw H=>(H 6=E ⟨l 6,125,5,c6,aa⟩/\H 12=E ⟨l 12,81,4,[I k,I (je 0 j n),a',a'],aa⟩/\∀t∈LL,H t=H0 t)/\∃tl:List bQ,aH [185] H 125 5 (tl.map aW) (w 15)/\tl.map bQ.c=(List.range q).map R/\(∀t∈tl,t.ty≠[])/\(tl.map λt=>t.ty.length).sum<=10000000*Nd.aR (g.take q)) A
    ⟨A,A,A,by simp[af,e0,e1,e2,e6,rJ,Nd.d,Y.ds,O.ds,Nd.gJ,strs],⟨by simp[aj,h6],by simp[aj],λt ht=>by obtain⟨z1,z2,-⟩:=nT t ht;simp[aj,z2,mh t ht]⟩,[],by simpa[af]using .inl ⟨A,A⟩,A,Zs,Zs⟩ ?_
   obtain⟨a6,a9,bb,bc,bd,rfl⟩:∃a b c d e,c6=[a,b,c,d,e]:=by
    exact By
   rintro q⟨w,H,n',aL,V,U⟩a3 s7⟨rfl,rfl,rfl,F,⟨h6,oU,mh⟩,tl,hx,hc,nS,ax⟩;simp only[a7]at s7 F h6 oU mh hx;obtain⟨e0,e1,e2,e6,rJ,CA,y_,-⟩:=F;obtain⟨Ny,sT⟩:=Zx (w 15);rw[sT]at hx;simp only[Nd.d,Y.ds,O.ds,bf,a8,Nd.gJ]at e1;have xo:tl.length=q:=by have:=dO List.length hc;simpa using this
   simp only[s7,y_,go_sem];refine aT (λh=>?_) λh=>?_
   .exact Z1
   .have ar:=bS h;subst ar;rw[b9]at ax;have ap:=made k (je 0 j n) [] (.mk o s p) tl ae nS Zo (by have:=ab g.length;rw[b9]at this;omega) (.inl A);have an:=fl.kids (k:=k) (v:=je 0 j n) (d:=[]) (m:=10000000*aE) hc (by have:=ab g.length;rw[b9]at this;omega) (ig _ ae);generalize cf (.mk o s p)=Q at*;simp only[h,go_sem];refine cX [12] [] ?_;simp only[e1,rJ,sT,oU,go_sem];refine fm [185] ap (.c Fz.tk (.c (.cl _ (Cl.bu (O.cl (.mk o s p)))) (.c (aH.fz (hx.congr (by simp[bi])) Zd (nf _) (nc _)) .n))) (Cl.bu (dF _)) ?_;simp only[e6,h6,aN,aW,go_sem];have hv:k5 j k v n=(je 0 j n):=by simp[k5,am]
    rw[hv];exact⟨Cl.bu (dF ⟨.mk k (je 0 j n) [] (tl.map bQ.c),Q::(tl.map bQ.ty).flatten⟩),⟨⟨.mk k (je 0 j n) [] (tl.map bQ.c),Q::(tl.map bQ.ty).flatten⟩,A,an⟩,λt ht=>by obtain⟨z1,z2,z3,z4,z5,z6⟩:=nT t ht;simp[aN,z1,z6,mh t ht]⟩
  .have a2:k≠8:=by simpa using h
   simp only[e1,go_sem];refine hC 158 g.length (λq=>kq 194 U V [(0,.rf 21 P 0),(1,(Nd.mk id (.mk k v n (.mk J L K) ns u) (.mk o s p) C g bs D).d),(2,cT vars),(6,.rf 6 (l 6) 0),(12,.rf 12 (l 12) 0),(156,.sl 1 (aq Nd.d g)),(157,I g.length)] λw H=>(H 6=E ⟨l 6,125,5,c6,aa⟩/\H 12=E ⟨l 12,81,4,[I k,I (v),a',a'],aa⟩/\∀t∈LL,H t=H0 t)/\∃tl:List bQ,aH [185] H 125 5 (tl.map aW) (w 15)/\tl.map bQ.c=(List.range q).map R/\(∀t∈tl,t.ty≠[])/\(tl.map λt=>t.ty.length).sum<=10000000*Nd.aR (g.take q)) A
    ⟨A,A,A,by simp[af,e0,e1,e2,e6,rJ,Nd.d,Y.ds,O.ds,Nd.gJ,strs],⟨by simp[h6],by simp[oU],λt ht=>by obtain⟨z1,z2,-⟩:=nT t ht;simp[mh t ht]⟩,[],by simpa[af]using .inl ⟨A,A⟩,A,Zs,Zs⟩ ?_
   obtain⟨a6,a9,bb,bc,bd,rfl⟩:∃a b c d e,c6=[a,b,c,d,e]:=by
    exact By
   rintro q⟨w,H,n',aL,V,U⟩a3 s7⟨rfl,rfl,rfl,F,⟨h6,oU,mh⟩,tl,hx,hc,nS,ax⟩;simp only[a7]at s7 F h6 oU mh hx;obtain⟨e0,e1,e2,e6,rJ,CA,y_,-⟩:=F;obtain⟨Ny,sT⟩:=Zx (w 15);rw[sT]at hx;simp only[Nd.d,Y.ds,O.ds,bf,a8,Nd.gJ]at e1;have xo:tl.length=q:=by have:=dO List.length hc;simpa using this
   simp only[s7,y_,go_sem];refine aT (λh=>?_) λh=>?_
   .exact Z1
   .have ar:=bS h;subst ar;rw[b9]at ax;have ap:=made k (v) [] (.mk o s p) tl ae nS Zo (by have:=ab g.length;rw[b9]at this;omega) (.inl A);have an:=fl.kids (k:=k) (v:=v) (d:=[]) (m:=10000000*aE) hc (by have:=ab g.length;rw[b9]at this;omega) (ig _ ae);generalize cf (.mk o s p)=Q at*;simp only[h,go_sem];refine cX [12] [] ?_;simp only[e1,rJ,sT,oU,go_sem];refine fm [185] ap (.c Fz.tk (.c (.cl _ (Cl.bu (O.cl (.mk o s p)))) (.c (aH.fz (hx.congr (by simp[bi])) Zd (nf _) (nc _)) .n))) (Cl.bu (dF _)) ?_;simp only[e6,h6,aN,aW,go_sem];have hv:k5 j k v n=(v):=by simp[k5,a2]
    rw[hv];exact⟨Cl.bu (dF ⟨.mk k (v) [] (tl.map bQ.c),Q::(tl.map bQ.ty).flatten⟩),⟨⟨.mk k (v) [] (tl.map bQ.c),Q::(tl.map bQ.ty).flatten⟩,A,an⟩,λt ht=>by obtain⟨z1,z2,z3,z4,z5,z6⟩:=nT t ht;simp[aN,z1,z6,mh t ht]⟩
 .exact G3
 .exact G3
variable {z5:Core}{am:D}
def po.mono(b:po z5 h am)(i:h<=V):po z5 V am:=by
 obtain⟨j,a,d,e,f,g⟩:=b;exact⟨j,a,d,e,fY f i,g⟩
variable {a5:aF}{g4:aD}{fd:bt}{a2:Nat}
def LS.find(b:LS a4 a5 g4 fd h V AC WP){a:i_}(d:WP[a2]?=E a)(g:St):ky g a.2.1.id ((WP.map λf=>f.2.1.id).map kP) (WP.map dJ)=E (E a2):=
 Kj (T:=TD 0) (b.st.xE.mono λk e=>by obtain⟨j,i,-⟩:=e;omega) b.nd (by simp[d])
def TJ{Z:aw}{g:aF}{K:aD}{H0:bt}(ab:LS Z g K H0 h V AC WP)(df:g.length<=1000)
 {id:Nat} {o v:Int} {ap:BA} {a au:O} {ar:aK} {w:Int} {kids:dv} {bs u:aX} {J ci L:Nat} {j:Nd} (an:j=.mk id (.mk o v ap a ar hw) au w kids bs z2) (s:o=9\/o=11) (ce:dp au) (cV:u.length<=1000000)
 (cC:0<=w) (cE:w<=1000) (b3:∀p∈j.cap,p.id∈ids u/\dp p.e.t) (cL:j.cap.length<=1000000) (bn:0<kids.length) (dg:kids.length<=1000) (cc:j.num<=100000) (cO:∀L,cj o (kids.map Nd.aZ) J L<=1000000)
 (b7:WP[ci]?=E (L,j,(List.range' 1 (kids.length-1)).map (cj o (kids.map Nd.aZ) J)))
 (bp:nB Z g K H0 h kids[0] u (cj o (kids.map Nd.aZ) J 0)):nB Z g K H0 h j u J:=by
 obtain⟨⟨dm,dq,dn,rows,bU,-⟩,cz,-⟩:=ab.st;have cS:=ab.sub;have cm:=ab.m21;have c1:=ab.m19;have bo:=λc2=>ab.find b7 c2;have b5:(WP.map dJ)[ci]?=E (dJ (L,j,(List.range' 1 (kids.length-1)).map (cj o (kids.map Nd.aZ) J))):=by rw[gF,b7];rfl
 have cK:bN o ap ar 0=[]:=by unfold bN;rcases s with rfl|rfl<;>simp
 have cg:j.d=(Nd.mk id (.mk o v ap a ar hw) au w kids bs z2).d:=by rw[an]
 have cW:j.id=id:=by rw[an];rfl
 have bv:j.l=w:=by rw[an];rfl
 have cY:j.ty=au:=by rw[an];rfl
 have cN:kids[0].num+1<=j.num:=by rw[an,Nd.num];have:=Nd.gV (ax bn);omega
 generalize bq:(List.range' 1 (kids.length-1)).map (cj o (kids.map Nd.aZ) J)=i at*;have cP:∀b∈i,b<=1000000:=by rw[<-bq];intro b cH;obtain⟨p,-,rfl⟩:=aG.1 cH;exact cO p
 have dh:i.length<=1000:=by rw[<-bq];simp;omega
 have r:iW Z g j (ids u) J=lj (Core.mk (if o=9 then 9 else 10) 0 (i.map λb=>((g.length+b:Nat):Int)) [iW Z g kids[0] (ids u) (cj o (kids.map Nd.aZ) J 0)]) (j.cap.map (mJ w (ids u))):=by
  rw[an,iW];simp only[x9];rw[av Zo,aM s,A0,Nd.px,bW,<-bq,dZ];unfold sg;rw[getD_map bn,aM cK];rfl
 have cQ:=cc;generalize cG:j.num=bM at cN cc cQ;have aU:=λ(cw:bt)(b6:bQ){cr:Core}{ck:Nat}(cd:fl cr ck b6)(aY:ck<=1000000000000)=>N0 (.rf 21 h 0) L j i b6 u b3 (cY▸ce) (bv▸cC) (bv▸cE) cL cV cd aY (H0:=cw);rw[bv]at aU;have b':=CT j.cap au Zo;have b8:=sY (l:=j.cap.map λp=>p.e.t) (λbj W=>by obtain⟨p,cJ,rfl⟩:=aG.1 W;exact(b3 p cJ).2) ce;unfold nB;rw[r,cG,cg];rw[cW]at bo;rw[nB]at bp;obtain⟨bz,bD,bB⟩:=a;obtain⟨ay,aE,aC⟩:=au;generalize iW Z g kids[0] (ids u) (cj o (kids.map Nd.aZ) J 0)=cn at*;have cu:(aq Nd.d kids)[0]?=E [Nd.d kids[0]]:=hX bn;have jL:cy aB 79=E (2,1,8):=Zk;have cb:vi aB 171=E (.pointer aa):=Zk;have dd:ah.sl g=.sl 12 (ah.ae g):=A;refine i'.eo [] [.cell 6 125] func84 A Zk ntmps84 A Zs ?_ λbe cq co=>?_
 .exact ab.cD
 have bm:∀a∈K,bi K H0 a=H0 a:=λa m=>by simp[bi,m]
 have bX:=(bm 21 cm).trans bU;have bT:=(bm 19 c1).trans cz;have am:∀a∈K,a≠6/\a≠8/\a≠11/\a≠89/\a≠90/\a≠112:=λa m=>by have:=cS a m;simp at this;omega
 generalize bi K H0=c' at*;have f1:(o==1)=al:=by simp;omega
 have ak:dJ (L,j,i)=.pa L [(Nd.mk id (.mk o v ap (.mk bz bD bB) ar hw) (.mk ay aE aC) w kids bs z2).d,cT j.cap,.sl 1 (aq lE i)]:=by unfold dJ;rw[cg]
 have cM:=Nd.cl (Nd.mk id (.mk o v ap (.mk bz bD bB) ar hw) (.mk ay aE aC) w kids bs z2);rw[ak]at aU;simp only[Nd.d,Y.ds,O.ds,bf,a8,Nd.gJ]at ak cM aU;simp only[Nd.d,Nd.gJ,f1,go_sem];rcases s with s|s
 have f9:(o==9)=ad:=by simp[s]
 have f11:(o==11)=al:=by simp[s]
 rw[aM s];simp only[f9,f11,bX,bT,cb,bo,b5,ak,cT,go_sem];generalize (9:Int)=G
 rotate_left
 have f9:(o==9)=al:=by simp[s]
 have f11:(o==11)=ad:=by simp[s]
 rw[av Zo];simp only[f9,f11,bX,bT,cb,bo,b5,ak,cT,go_sem];generalize (10:Int)=G
 all_goals
  refine hC 75 i.length (λq=>kq 194 co cq [(0,.rf 21 h 0),(1,(Nd.mk id (.mk o v ap (.mk bz bD bB) ar hw) (.mk ay aE aC) w kids bs z2).d),(2,cT u),(6,.rf 6 (be 6) 0),(7,dJ (L,j,i)),(8,.rf 8 (be 8) 0),(73,.sl 1 (aq lE i)),(74,I i.length)] λct aL=>(∃bF bG bI bK bL,aL 6=E ⟨be 6,125,5,[bF,bG,bI,bK,bL],aa⟩)/\(∃bj,aL 8=E ⟨be 8,81,4,[I G,I 0,bj,a'],aa⟩/\aH [90] aL 2 1 (aq I ((i.take q).map λb=>((g.length+b:Nat):Int))) bj)/\∀a∈K,aL a=H0 a) A
   ⟨A,A,A,by simp[af,ba,Nd.d,Y.ds,O.ds,Nd.gJ,strs,ak],⟨_,_,_,_,_,by simp only[aj];rfl⟩,⟨.sc (.slice aa 0 0),by simp[aj],.inl ⟨A,A⟩⟩,λa m=>by obtain⟨M,X,-⟩:=am a m;simp[aj,M,X,bm a m]⟩ ?_
  rintro q⟨ct,aL,di,dk,da,c_⟩cd a6⟨rfl,rfl,rfl,b_,⟨bF,bG,bI,bK,bL,a5⟩,⟨bj,a9,W⟩,R⟩;simp only[a7]at a6 b_ a5 a9 W R;obtain⟨aQ,bk,a2,bl,aR,a3,bP,bR,-⟩:=b_;have bY:=(R 21 cm).trans bU;simp only[Nd.d,Y.ds,O.ds,bf,a8,Nd.gJ]at bk;simp only[a6,bR,go_sem];refine aT (λaS=>?_) λaS=>?_
  .have bc:=bh aS;have cv:=hX (f:=lE) bc;have de:=cP _ (ax bc);have cU:(i.take (q+1)).map (λb=>((g.length+b:Nat):Int))=(i.take q).map (λb=>((g.length+b:Nat):Int))++[((g.length+i[q]:Nat):Int)]:=by rw[ch bc,bC];rfl
   have c8:=wrap_add g.length i[q] Zo;have ca:(aq I ((i.take q).map λb=>((g.length+b:Nat):Int))).length=q:=by simp[aq];omega
   simp only[aS,a6,bP,cv,go_sem];refine cX [8,21] [] ?_;simp only[aQ,a3,a9,bY,c8,ic,go_sem];refine iO (S:=[90]) (rows:=aq I ((i.take q).map λb=>((g.length+b:Nat):Int))) (bx:=aq I [((g.length+i[q]:Nat):Int)]) Zs jL (by simp only[af,aI,aV,aP];exact W.congr bJ) (e_ _) (by simp[af,cF,aj,aq]) (by simp[aq]) A (by rw[ca];show(q+1)*8<=_;omega) (by rw[ca];show q+1<=ao;unfold ao;omega) (by show 90<194;decide) ?_;intro c9 dj dl bd bb;rw[<-o_]at bd;obtain⟨dc,rfl,-⟩:=fG bd (by simp[aq]);have b0:=bb 8 Zd Zd;have bZ:=bb 6 Zd Zd;have cB:=bb 21 Zd Zd;simp only[bV,dP,aP,dz,a5,a9,bY]at bZ b0 cB;simp only[a6,a3,b0,go_sem];refine bg bc ⟨A,A,A,by simp[af,aQ,bk,a2,bl,aR,a3,bP,bR,Nd.d,Y.ds,O.ds,Nd.gJ,strs],⟨bF,bG,bI,bK,bL,by simp[aj,bZ]⟩,⟨_,by simp only[bH];rfl,?_⟩,λa m=>?_⟩
   .rw[cU];rw[dC]at bd;refine aH.congr bd ?_;simp[aj]
   .obtain⟨M,X,P,a1,Q,aJ⟩:=am a m;have:=bb a Q (by simpa using Q);simp only[bV _ _ a1]at this;simp only[bV _ _ X];exact this.trans (R a m)
  .have cR:=bS aS;subst cR;rw[b9]at W;rw[ak]at aR;simp only[aS,cT,go_sem];refine oP (.bE [0,1,2,3,4,5,6,7,8,10,11,12,13,14,15,16,17] 9 (.bE [] 18 (.bE [] 19 (.bE [] 20 (.fin [21,22]) 21 (.fin [20,22])) 21 (.fin [19,20,22])) 21 (.fin [18,19,20,22])) 21 (.fin [9,18,19,20,22])) [8] [] mixed Zk ?_;simp only[aQ,bk,a2,aR,a3,a9,cu,go_sem];have b2:=ig _ b8;have b1:=λ(t0:bQ)(cx:t0.ty≠[])(cA:t0.ty.length<=2000000000000)=>made G 0 (i.map λb=>((g.length+b:Nat):Int)) (gK (j.cap.map λp=>p.e.t) (.mk ay aE aC)) [t0] b8 (by simpa using cx) Zs (by simpa using cA) (.inl A);generalize cf (gK (j.cap.map λp=>p.e.t) (.mk ay aE aC))=a4 at*;generalize gK (j.cap.map λp=>p.e.t) (.mk ay aE aC)=db at*;refine⟨?_,?_⟩
   .refine bO b' ?_;refine⟨?_,?_⟩
    all_goals
     refine .inr (.inr (bp _ _ _ (λa m=>by obtain⟨M,X,P,a1,Q,aJ⟩:=am a m;simp[aj,P,R a m]) λcZ bw r U=>?_));obtain⟨⟨⟨z,D,y,B⟩,C⟩,rfl,F⟩:=r;have aY:=b1 ⟨.mk z D y B,C⟩ F.ne (by have:=F.len;omega);have br:fl (Core.mk G 0 (i.map λb=>((g.length+b:Nat):Int)) [cn]) (1+10000000*kids[0].num) ⟨.mk G 0 (i.map λb=>((g.length+b:Nat):Int)) [.mk z D y B],a4::C⟩:=⟨by rw[<-F.c],Zs,by have:=F.len;simp at this⊢;omega,by simp[b2]⟩;simp only[aW,go_sem]
     (repeat' apply And.intro)
     all_goals
      refine fm [112,90] aY (.c (Fz.lI (.c (.cl _ (aO _)) (.c (.cl _ (aO _)) (.c (kE (S:=[90]) (W.congr (by simp[bi,aj])) λ_ _=>aO _) (.c (.cl _ (aO _)) .n))))) (.c (.cl _ (Cl.bu (O.cl _))) (.c (Fz.az (kids:=[⟨.mk z D y B,C⟩]) (by simp[bi,aj,aW,Core.ds,ints]) A) .n))) (Cl.bu (dF _)) ?_;simp only[aQ,a2,aR,aN,aW,dN,fX,go_sem];refine .inr (.inr (aU (λ_=>aa) ⟨.mk G 0 (i.map λb=>((g.length+b:Nat):Int)) [.mk z D y B],a4::C⟩ br Zo _ _ _ Zs λc0 bw r U=>?_));have a0:=po.mono r (show _<=10000000*bM by omega);obtain⟨⟨⟨c4,c7,c3,c5⟩,c6⟩,rfl,-⟩:=r;simp only[aW,Core.ds,bf,a8]at a0 U;simp only[bl,a5,aN,aW,go_sem];exact⟨U,a0,λa m=>by obtain⟨M,X,P,a1,Q,aJ⟩:=am a m;simp[M,P,Q,aJ,R a m]⟩
   .refine bO b' ?_;refine .inr (.inr (bp _ _ _ (λa m=>by obtain⟨M,X,P,a1,Q,aJ⟩:=am a m;simp[aj,P,R a m]) λcZ bw r U=>?_));obtain⟨⟨⟨z,D,y,B⟩,C⟩,rfl,F⟩:=r;have aY:=b1 ⟨.mk z D y B,C⟩ F.ne (by have:=F.len;omega);have br:fl (Core.mk G 0 (i.map λb=>((g.length+b:Nat):Int)) [cn]) (1+10000000*kids[0].num) ⟨.mk G 0 (i.map λb=>((g.length+b:Nat):Int)) [.mk z D y B],a4::C⟩:=⟨by rw[<-F.c],Zs,by have:=F.len;simp at this⊢;omega,by simp[b2]⟩;simp only[aW,go_sem]
    (repeat' apply And.intro)
    all_goals
     refine fm [112,90] aY (.c (Fz.lI (.c (.cl _ (aO _)) (.c (.cl _ (aO _)) (.c (kE (S:=[90]) (W.congr (by simp[bi,aj])) λ_ _=>aO _) (.c (.cl _ (aO _)) .n))))) (.c (.cl _ (Cl.bu (O.cl _))) (.c (Fz.az (kids:=[⟨.mk z D y B,C⟩]) (by simp[bi,aj,aW,Core.ds,ints]) A) .n))) (Cl.bu (dF _)) ?_;simp only[aQ,a2,aR,aN,aW,dN,fX,go_sem];refine .inr (.inr (aU (λ_=>aa) ⟨.mk G 0 (i.map λb=>((g.length+b:Nat):Int)) [.mk z D y B],a4::C⟩ br Zo _ _ _ Zs λc0 bw r U=>?_));have a0:=po.mono r (show _<=10000000*bM by omega);obtain⟨⟨⟨c4,c7,c3,c5⟩,c6⟩,rfl,-⟩:=r;simp only[aW,Core.ds,bf,a8]at a0 U;simp only[bl,a5,aN,aW,go_sem];exact⟨U,a0,λa m=>by obtain⟨M,X,P,a1,Q,aJ⟩:=am a m;simp[M,P,Q,aJ,R a m]⟩
abbrev nw(x:Nd):Prop:=Nd.all (λy=>decide (O.w y.ty/\∀b∈y.bs,O.w b.e.t)) x=ad
def nw.own{a:Nd}(b:nw a):(O.w a.ty/\∀d∈a.bs,O.w d.e.t)/\∀f∈a.ks,nw f:=by
 rw[nw,Nd.all_eq,b3,b6,cO]at b;exact b
def J_(j:fR a4 a5):∀(g:Y){x:Nd}{h:aX}{q:Int}{y:aK},fB a4 a5 g x h q->TC a4 a5 g y->(∀b∈h,O.w b.e.t)->nw x
 |.mk P v Q g R k,_,h,q,y,.mk (kids:=kids) (bs:=bs) (b:=V) (ty:=ty) (id:=id) K f G ab J,d,p=>by
  have s:∀z∈h.map Bi.e,O.w z.t:=λz L=>by obtain⟨b,f,rfl⟩:=aG.1 L;exact p b f
  have r:∀b∈bs,O.w b.e.t:=λb f=>by
   have a:b.e∈er a4 a5 P Q g R k (h.map Bi.e) q:=by rw[<-G];exact aG.2 ⟨b,f,A⟩
   unfold er at a;split at a
   .rename_i C;simp only[bG]at a;rw[a];have f3:=d.form.2.2.1;exact⟨by simp only[jt,C,fK,aI,b3]at f3;exact f3.1,by have:=d.ok;rw[Y.ok]at this;exact this.2.1⟩
   split at a
   .obtain⟨S,u,B⟩:=aG.1 a;rw[Option.mem_toList]at u;obtain⟨U,D,F⟩:=iJ.1 u;obtain⟨W,l,I⟩:=iJ.1 D;rw[<-B]
    match k,l,d with
    |X::Z,l,d=>
     cases l;exact Bc (qP j _ (d.cM 0 Zs) s I) (i:=S.2) F
   split at a
   .exact vV j _ a
   .cases a
  rw[nw,Nd.all_eq,b3,b6,cO];refine⟨⟨qP j _ d s K,r⟩,λae M=>?_⟩;obtain⟨i,m,rfl⟩:=dG M;have m:i<kids.length:=m;have o:i<k.length:=Zo;exact J_ j k[i] (J i o m) (d.cM i o) (by split;exact λb f=>(cg.1 f).elim (p b) (r b);exact p)
termination_by g=>g
decreasing_by
 have:=cH (ax o);simp;omega
variable {lw:O}{g6:Env}
def Ix{a v:Int}{b:BA}{d:aK}{id:Nat}{e:Int}{bs k:aX}(o:a=9\/a=11)(g:Cx a4 a5 (.mk a v b go d hw) (.mk id (.mk a v b go d hw) lw e v2 bs z2) k e)
 {vs:aD} {w:Int} (q:Rl (.mk a v b go d hw) k e vs g6 w):∀f∈(Nd.mk id (.mk a v b go d hw) lw e v2 bs z2).cap,f.id∈vs/\f∈k:=λf m=>by
 obtain⟨t,y⟩:=yV o g.sh (λx h i l=>(g.sh.case h i).2 ⟨x,l⟩) g.is g.ap λr j=>q.xu j;rw[t]at m;obtain⟨r,j,p⟩:=List.mem_filterMap.1 m;obtain⟨-,h,i,l,u⟩:=my.1 j;have s:bN a b d h=[]:=by unfold bN;rcases o with rfl|rfl<;>simp
 refine⟨(q.get r (by rw[fv,oT];exact .inr ⟨h,i,by rw[ek,s,c_];exact u⟩) f p).1,?_⟩;have:=uh p;simpa using this
def EE{s:aw}{B:aF}(J:fR s B)(ar:s.length<=1000)(ap:∀aL∈s,(ai.cs aL).length<=1000)(M:LS s B g4 fd h V AC WP):
 ∀(d:Y){z:Nd}{D vars:aX}{g:Int}{S:Env}{l:Int}(C:Nat),Y.kd d≠10->Cx s B d z D g->Rl d D g (ids vars) S l->(∀p∈D,O.w p.e.t)->nw z->(∀L∈z.eR C,L∈WP.map Prod.snd)->0<=g->g+d.num<=1000->z.num<=1000->vars.length+z.num<=1000000->C+z.aZ<=10000->
  nB s B g4 fd h z vars C
 |.mk a v n d k i,z,D,vars,g,S,l,C,P,F,Z,ab,a2,ay,ah,ak,bc,be,a_=>by
  have P:a≠10:=P;have K:=F.sh;obtain⟨id,o,f,bs,m,rfl,Q,am⟩:∃id o f bs m,z=.mk id (.mk a v n d k i) o g f bs m/\f.length=i.length/\m=if a=1 then cE D n else aa:=by
   cases F.is with|mk aH j an Q aV=>exact⟨_,_,_,_,_,A,Q,j⟩
  have aS:bs.map Bi.e=er s B a n d k i (D.map Bi.e) g/\a6 s B (.mk a v n d k i) (D.map Bi.e) g=E o:=by
   cases F.is with|mk aH j an Q aV=>exact⟨an,aH⟩
  obtain⟨⟨R,aI⟩,aJ⟩:=a2.own;simp only[Nd.ty,Nd.bs,Nd.ks]at R aI aJ;have aE:=@Nd.lS (.mk id (.mk a v n d k i) o g f bs m);simp only[Nd.bs,Nd.ks]at aE;have bd:1<=a/\a<=11:=by
   have:=K.len;unfold cN at this;by_cases q:1<=a/\a<=11
   .exact q
   .rw[av Zo,av Zo,av Zo,av Zo,av Zo,av Zo]at this;simp[a1]at this;omega
  by_cases aW:a=1
  .subst aW;rw[aM A]at am;refine TG M (by have:=J.len;omega) (oS _ R.1) (λp j=>?_) Zo;rw[am]at j;exact⟨(Z.get n (by rw[fv];exact .inl ⟨A,A,Zs⟩) p j).1,oS _ (ab p (by have:=uh j;simpa using this)).1⟩
  have aB:∀(b:Nat)(r:b<f.length),(a=9\/a=11->b=0)->nB s B g4 fd h f[b] (lW a n k vars bs b) (cj a (f.map Nd.aZ) C b):=λb r az=>by
   have I:b<i.length:=Zo;have aT:Rl i[b] (D++if cV a b then bs else[]) (bL a g) (ids (lW a n k vars bs b)) (b8 s B a n d k i S l b) (bL a l):=by
    rw[Ng];exact Z.cM F P b I r
   have ba:=aE.2.2 _ (ax r);have bb:=Y.gV (ax I);rw[Y.num]at ak;refine EE J ar ap M i[b] _ ?_ (F.cM b I r) aT (λp j=>?_) (aJ _ (ax r)) (λL W=>?_) ?_ ?_ Zo ?_ ?_
   .rw[Ne,K.case b I];rintro⟨q,a5⟩;exact absurd (az (.inl q)) Zo
   .rcases cg.1 j with j|j
    .exact ab p j
    .split at j
     .exact aI p j
     .cases j
   .refine ay L ?_;rw[oR];refine eN _ (ft.2 ⟨_,aG.2 ⟨b,rb.2 r,A⟩,?_⟩);simp only[Nd.ks,Nd.t,Y.kd,bR r,ey,kM];rw[show e8 a b=0 by unfold e8;rw[av];rintro⟨q,a5⟩;have:=az q;omega,kL];exact W
   .unfold bL;split<;>omega
   .unfold bL;split<;>omega
   .have y:=@Nd.lS (.mk id (.mk a v n d k i) o g f bs m);have:(lW a n k vars bs b).length<=vars.length+bs.length:=by unfold lW;split<;>simp
    have U:f[b].num+bs.length+1<=(Nd.mk id (.mk a v n d k i) o g f bs m).num:=by rw[Nd.num];have:=Nd.gV (ax r);omega
    omega
   .have u:=xY (x:=.mk id (.mk a v n d k i) o g f bs m) (q:=b) r;have y:=tR (.mk id (.mk a v n d k i) o g f bs m) C b;simp only[Nd.ks,Nd.t,Y.kd]at u y;omega
  by_cases G:a=9\/a=11
  .have X:=K.len;have aA:0<f.length:=by
    rw[Q];rcases G with rfl|rfl<;>simp[a1,cN]at X<;>omega
   have aY:((Nd.mk id (.mk a v n d k i) o g f bs m),(List.range' 1 (f.length-1)).map (cj a (f.map Nd.aZ) C))∈WP.map Prod.snd:=ay _ (by
    have aO:Y.kd (Nd.mk id (.mk a v n d k i) o g f bs m).t=9\/Y.kd (Nd.mk id (.mk a v n d k i) o g f bs m).t=11:=G;rw[oR,aM aO];exact eE _ (bG.2 A))
   obtain⟨⟨b,L⟩,W,au⟩:=aG.1 aY;obtain⟨bf,aU⟩:=hQ.1 W;simp only at au;subst au;have aq:=Ix G F Z;have a0:lW a n k vars bs 0=vars:=by unfold lW;rw[aM (by unfold bN;rcases G with rfl|rfl<;>simp)]
   have aC:=aB 0 aA λ_=>A;rw[a0]at aC;refine TJ M (by have:=J.len;omega) A G (oS _ R.1) Zo ah Zo (λp j=>⟨(aq p j).1,oS _ (ab p (aq p j).2).1⟩) ?_ aA Zo Zo (λb=>?_) aU aC
   .have aP:=((zT _ K F.is ah ak).own.1.1 G).1;rw[yU];have u:=wP (n:=1000) (Nd.mk id (.mk a v n d k i) o g f bs m).bE [] λa4 J=>by have:=(w_ aP a4 J).1;omega
    have y:=s4 (.mk id (.mk a v n d k i) o g f bs m);have U:(Nd.mk id (.mk a v n d k i) o g f bs m).bE.length<=1000:=by simp only[Nd.ks]at y;omega
    have a':=ui 1000 U;simp only[gG,ek]at u;omega
   .have y:=tR (.mk id (.mk a v n d k i) o g f bs m) C b;have U:=Ei (.mk id (.mk a v n d k i) o g f bs m) (q:=b);simp only[Nd.ks,Nd.t,Y.kd]at y;omega
  .refine TH M ar ap Zo (oS _ R.1) Zo Zo Zo (λb j aN=>?_) Zo λb r=>aB b r λq=>absurd q G;subst aN;obtain⟨u,y⟩:=aS;unfold bN at j;by_cases aK:a=4
   .unfold er at u;rw[aM aK]at u;simp at u
   .have ae:a=7:=by
     by_cases ae:a=7
     .exact ae
     .rw[av Zo,av P]at j;exact absurd A j
    subst ae;have X:=K.len;simp[a1,cN]at X;obtain⟨a8,a9,rfl⟩:=sj (l:=i) Zo;simp only[a6,iu,kj,List.getD_cons_zero]at y;rw[av Zd,av Zd,av Zd,av Zd,aM trivial]at y;obtain⟨a7,aQ,aR⟩:=iJ.1 y;obtain⟨bg,a3,-⟩:=iJ.1 aR;unfold er at u;rw[av aK,aM A]at u;simp[aQ,a3]at u
termination_by d=>d
decreasing_by
 have:=cH (ax I);simp;omega
end
section
open Classical
def Rp(a:aD)(v:Nat)(j:a.length<=ao):au 256 [.sl 1 (aq lE a),I v] (I (et (λe=>e==v) a)):=by
 unfold ao at j;refine Sp.s [] [.tmp 4] func256 ntmps256 ?_;refine bq 8 a.length (λb=>Fw.Inv 19 [(0,.sl 1 (aq lE a)),(1,I v),(7,I a.length)] ((a.take b).any (λe=>e==v)=al)) A ⟨A,by simp[ba,af],Zs⟩ ?_;rintro b p l r o m q hp;simp only[go_sem];refine aT (λh=>?_) λh=>?_
 .have d:=bh h;have i:((v:Int)==(a[b]:Int))=(a[b]==v):=by rw[nk];simp;omega
  simp only[h,hX (f:=lE) d,i,go_sem];cases g:a[b]==v
  .simp only[go_sem];refine bg d ⟨A,by simp[af],?_⟩;rw[any_take_succ d,hp,p6,<-g]
  .simp only[go_sem];exact Fz.int (kW d hp g).symm
 .exact lH
def Px(l:aD)(v:Nat)(d:l.length<=ao):au 198 [.sl 1 (aq lE l),I v] (B (decide (v∈l))):=by
 have b:decide (v∈l)=l.any (λa=>a==v):=by rw[nk];simp
 rw[b];refine Sp.s [] [.tmp 4] func198 ntmps198 ?_;refine hU (Rp l v d) (.c (ed λa _=>aO _) (.c (aO _) .n)) ?_;exact yt
variable {YQ:Array MapEntry}{h V:Nat}
def Oy(e:(YQ.toList.map (·.born)).Nodup){b:h<YQ.size}{d:V<YQ.size}(a:YQ[h].born=YQ[V].born):h=V:=by
 have f:YQ.toList.Pairwise λg i=>g.born≠i.born:=by rw[List.Nodup,List.pairwise_map]at e;exact e
 rcases Nat.lt_trichotomy h V with q|q|q
 .exact absurd a (List.pairwise_iff_getElem.1 f h V (by simpa using b) (by simpa using d) q)
 .exact q
 .exact absurd a.symm (List.pairwise_iff_getElem.1 f V h (by simpa using d) (by simpa using b) q)
variable {a4:aw}{a5:aF}{AC:List Rt}
attribute [local semireducible] St.put
def Qh{D:aD}{C:bt}{j:List i_}(G:LS a4 a5 D C h V AC j){F:i_}(aV:F∈j){l:Nat}(a0:l∈F.2.2)(be:∀u∈j,l∈u.2.2->u=F)(a1:∀u∈j,u.2.2.length<=1000):
 i' aB D C 137 [.rf 21 h 0,I l] λO=>O=dJ F:=by
 obtain⟨⟨bS,bU,bT,bK,aP,-⟩,aM,-⟩:=G.st;have Q:∀Y∈D,bi D C Y=C Y:=λY bd=>by simp[bi,bd]
 have aQ:=(Q 21 G.m21).trans aP;have aN:=(Q 19 G.m19).trans aM;refine i'.Lv [.tmp 4] func137 A Zk ntmps137 A Zs ?_ λbg aI aH=>?_
 .exact G.cD
 generalize bi D C=aE at*;intro bM aG aL br bL a3;have bf:(aB).underlying 171=E (.map 174 222):=Zk;refine wp_seq (i6 (vT 1 (K:=ld aE bg 23 aI aH [(0,.rf 21 h 0),(1,I l)]) a3 (by simp only[h7,h8,ld,go_sem]) λbj bs ar a8=>?_));obtain⟨b,d,e,f,g,a⟩:=a8;obtain⟨k,m,q,y,p,o⟩:=bj;simp only at b d e f g;subst b;subst d;subst e;subst f;subst g;simp only[a7]at a;obtain⟨Z,i,-⟩:=a;refine wp_seq (wp_seq (i6 (vT 4 (K:=ld m q 23 p o [(1,I l),(10,.mp 19 V)]) ar (by simp only[h7,h8,ld,Z,aQ,go_sem];simp[i]) λbk bu au a9=>?_)));clear ar Z i;obtain⟨b,d,e,f,g,a⟩:=a9;obtain⟨k,m,q,y,p,o⟩:=bk;simp only at b d e f g;subst b;subst d;subst e;subst f;subst g;simp only[a7]at a;obtain⟨i,ab,-⟩:=a;refine XR A au A bf aN A ab Zs λbv bN r bF P bH av am=>?_;refine wp_block (XV (λseen bh=>ld m q 23 p o [(1,I l),(11,.sc (.pointer (E ⟨r,0,aa⟩)))] bh/\∀(z:Nat)(bI:z<P.size),P[z].born∈seen.toList->∀u,j[z]?=E u->l∉u.2.2) ?_ av am ⟨by simp[ld,St.put,af,i],Zs⟩);clear av am au i ab;intro seen bl bw bO ay S⟨a',ap⟩;obtain⟨b,d,e,f,g,a⟩:=a';obtain⟨k,m,q,y,p,o⟩:=bl;simp only at b d e f g;subst b;subst d;subst e;subst f;subst g;simp only[a7]at a;obtain⟨i,t,-⟩:=a;have bJ:P.size=j.length:=by have:=S.len;simpa using this.symm
 refine wp_seq (i6 (XP A ay S A (show St.ev _ (.tmp 11)=_ from t) (λaR aJ W=>?_) (λs an aJ bP W U a2=>?_)))
 .obtain⟨s,an,aZ⟩:=dG aV;exact absurd a0 (ap s Zo (aR _ Zs) F (by rw[bR an,aZ]))
 .refine vT 1 (K:=ld m q 23 p o [(1,I l),(11,.sc (.pointer (E ⟨r,0,aa⟩))),(13,.sc (.bool ad))]) W (by simp only[h7,h8,ld,go_sem];simp[i,t]) λbm bx X a_=>?_;clear W ay S i t;obtain⟨b,d,e,f,g,a⟩:=a_;obtain⟨k,m,q,y,p,o⟩:=bm;simp only at b d e f g;subst b;subst d;subst e;subst f;subst g;simp only[a7]at a;obtain⟨i,t,ae,-⟩:=a;refine wp_seq (wp_cond_true (gW X (x:=.tmp 13) ae) (wp_skip ?_));refine wp_block (wp_seq (i6 ?_));have J:s<j.length:=Zo;have aT:(j.map dJ)[s]?=E (dJ j[s]):=by simp[J]
  refine XO A X U A (show St.ev _ (.tmp 11)=_ from t) aT λbz az=>?_;refine vT 2 (K:=ld m q 23 p o [(1,I l),(11,.sc (.pointer (E ⟨r,0,aa⟩))),(6,dJ j[s])]) az (by simp only[h7,h8,ld,go_sem];simp[i,t]) λbn bA aA ba=>?_;clear az X i t ae;obtain⟨b,d,e,f,g,a⟩:=ba;obtain⟨k,m,q,y,p,o⟩:=bn;simp only at b d e f g;subst b;subst d;subst e;subst f;subst g;simp only[a7]at a;obtain⟨i,t,w,-⟩:=a;refine wp_seq (i6 (vT 5 (K:=ld m q 23 p o [(1,I l),(11,.sc (.pointer (E ⟨r,0,aa⟩))),(6,dJ j[s]),(19,.sl 1 (aq lE j[s].2.2)),(20,I l)]) aA (by simp only[h7,h8,ld,dJ,i,w,go_sem];simp[i,t,w,dJ]) λbo bB aC bb=>?_));clear aA i t w;obtain⟨b,d,e,f,g,a⟩:=bb;obtain⟨k,m,q,y,p,o⟩:=bo;simp only at b d e f g;subst b;subst d;subst e;subst f;subst g;simp only[a7]at a;obtain⟨i,t,w,ah,ai,-⟩:=a;refine XN A aC A (first:=[]) (d:=[]) (i:=B (decide (l∈j[s].2.2))) A ?_ λbC bQ aS M=>?_
  .show oy _ _ _ _ [k 19,k 20] _;have:k 19=_:=ah;have:k 20=_:=ai;simp only[*];refine .inl ⟨Px j[s].2.2 l (by have:=a1 _ (ax J);unfold ao;omega),λz O aU=>eO.all (.c (ed λ_ _=>aO _) (.c (aO _) .n)) O (eg aU)⟩
  have aW:ld m q 23 p o [(1,I l),(11,.sc (.pointer (E ⟨r,0,aa⟩))),(6,dJ j[s]),(21,B (decide (l∈j[s].2.2)))] (St.put ⟨k,m,q,23,p,o⟩ (E 21) (B (decide (l∈j[s].2.2)))):=by simp[ld,St.put,af,i,t,w]
  clear aC i t w ah ai;generalize (St.put ⟨k,m,q,23,p,o⟩ (E 21) (B (decide (l∈j[s].2.2))))=bp at*;obtain⟨b,d,e,f,g,a⟩:=aW;obtain⟨k,m,q,y,p,o⟩:=bp;simp only at b d e f g;subst b;subst d;subst e;subst f;subst g;simp only[a7]at a;obtain⟨i,t,w,ak,-⟩:=a;by_cases L:l∈j[s].2.2
  .refine wp_cond_true (gW M (x:=.tmp 21) (by show k 21=_;rw[show k 21=_ from ak];simp[L])) ?_;refine wp_seq (i6 (vT 2 (K:=ld m q 23 p o [(4,dJ j[s])]) M (by simp only[h7,h8,ld,go_sem];simp[w]) λbq bD a6 bc=>?_));obtain⟨b,d,e,f,g,a⟩:=bc;obtain⟨k,m,q,y,p,o⟩:=bq;simp only at b d e f g;subst b;subst d;subst e;subst f;subst g;simp only[a7]at a;obtain⟨aK,-⟩:=a;refine wp_ret ?_;refine .inr ⟨Zs,⟨k,m,q,23,p,o⟩,aL,aG,?_,a6⟩;rw[Ea];simp only[aK,go_sem];exact⟨zj _,by rw[be _ (ax J) L],Q⟩
  .refine wp_cond_false (gW M (x:=.tmp 21) (by show k 21=_;rw[show k 21=_ from ak];simp[L])) (wp_skip ?_);refine .inl ⟨A,_,_,M,U.below aS,⟨⟨A,A,A,A,A,by simp[i,t]⟩,λz aX hm u R=>?_⟩,a2⟩;simp only[Array.toList_push,cg,bG]at hm;rcases hm with hm|hm
   .exact ap z aX hm u R
   .have aY:=Oy U.nd (by simpa using hm);subst aY;rw[bR J]at R;cases R;exact L
attribute [local irreducible] St.put
end
section
open Classical
structure Good (ab:List ai) (ds:List ah) (nd:Nd) (m:Nat) (r:Rt) (p:Nat):Prop where
 cx:∃(c:Y)(sc:List Bi)(d:Env),Y.kd c≠10/\Cx ab ds c r.1 (sc++r.2.1) r.2.2.l/\(∀b∈sc++r.2.1,O.w b.e.t)/\(∀b∈r.2.2.cap,b∈sc)/\r.2.2.l+c.num<=1000/\
  ∀o:Nat->Nat,(∀j,∀b∈r.2.2.cap,o j≠b.id)->(∀j,o j∉ids r.2.1)->Rl c (sc++r.2.1) r.2.2.l (ids r.2.1++(eM r.2.2.l o r.2.2.cap 0++ids (bY r.2.2.l r.2.2.cap))) d 0
 w:nw r.1
 wn:nw r.2.2
 l0:0<=r.2.2.l
 n1:r.1.num+r.2.1.length<=nd.num
 nx:r.2.2.num<=nd.num
 sub:∀f∈r.1.eR (p+1),f∈nd.eR m
 own:∃a,(r.2.2,a)∈nd.eR m/\p∈a
 le:m<=p/\p+1+r.1.aZ<=m+nd.aZ
 cl:r.2.2.cap.length<=409600
variable {a4:aw}{a5:aF}{h:Nat}
def Good.lift{d nd:Nd}{m:Nat}{i:Rt}{g:Nat}(a:Good a4 a5 d h i g)(f:∀b∈d.eR h,b∈nd.eR m)(e:d.num<=nd.num)(p:m<=h/\h+d.aZ<=m+nd.aZ):Good a4 a5 nd m i g:=
 ⟨a.cx,a.w,a.wn,a.l0,fY a.n1 e,fY a.nx e,λb o=>f b (a.sub b o),by obtain⟨j,k,l⟩:=a.own;exact⟨j,f _ k,l⟩,by have:=a.le;omega,a.cl⟩
def oE(l:aD)(j:Nat):Nat:=l.sum+1+j
def pw{l:aD}{j:Nat}:oE l j∉l:=λh=>by
 have:∀(l:aD)(a:Nat),a∈l->a<=l.sum:=λl a h=>by
  induction l with
  |nil=>cases h
  |cons d l b=>rw[ia];rcases cJ.1 h with rfl|h;omega;have:=b h;omega
 have:=this l _ h;unfold oE at this;omega
def Ej(W:fR a4 a5):∀(d:Y){nd:Nd}{K:aX}{vs:aD}{f:Int}{an:Env}{aK:Int}(m:Nat),Y.kd d≠10->Cx a4 a5 d nd K f->Rl d K f vs an aK->(∀p∈K,O.w p.e.t)->nw nd->0<=f->f+d.num<=1000->nd.num<=640->
 ∀(k:Nat)(y:Rt),nd.ep[k]?=E y->Good a4 a5 nd m y (m+k)
 |.mk b v n d i g,nd,K,vs,f,an,aK,m,ak,C,am,aA,aH,ab,aV,br=>by
  have ak:b≠10:=ak;have aC:=C.sh;obtain⟨id,j,a,bs,h,rfl,U⟩:∃id j a bs h,nd=.mk id (.mk b v n d i g) j f a bs h/\a.length=g.length:=by
   cases C.is with|mk bb r aW U a6=>exact⟨_,_,_,_,_,A,U⟩
  obtain⟨⟨bc,aI⟩,X⟩:=aH.own;simp only[Nd.ty,Nd.bs,Nd.ks]at bc aI X;have ay:=@Nd.lS (.mk id (.mk b v n d i g) j f a bs h);simp only[Nd.bs,Nd.ks]at ay;rw[Y.num]at aV;have bh:∀q,q<=a.length->∀(k:Nat)(y:Rt),(fA (.mk id (.mk b v n d i g) j f a bs h) q)[k]?=E y->Good a4 a5 (.mk id (.mk b v n d i g) j f a bs h) m y (m+k):=by
   intro q
   induction q with
   |zero=>intro _ k y o;simp[AQ]at o
   |succ q bg=>
    intro a' k y o;have z:q<a.length:=a';have D:q<g.length:=Zo;have V:=ax z;have bo:=ay.2.2 _ V;have bq:=Y.gV (ax D);have a7:=tR (.mk id (.mk b v n d i g) j f a bs h) m q;have R:=xY (x:=.mk id (.mk b v n d i g) j f a bs h) (q:=q) z;simp only[Nd.ks,Nd.t,Y.kd]at a7;have P:∀I∈a[q].eR (cj b (a.map Nd.aZ) m q+e8 b q),I∈(Nd.mk id (.mk b v n d i g) j f a bs h).eR m:=λI s=>by
     rw[oR];refine eN _ (ft.2 ⟨_,aG.2 ⟨q,rb.2 z,A⟩,?_⟩);simp only[Nd.ks,Nd.t,Y.kd,bR z,ey,kM];exact s
    rw[xZ z]at o;by_cases a2:k<(fA (.mk id (.mk b v n d i g) j f a bs h) q).length
    .rw[jR a2]at o;exact bg Zo k y o
    rw[jv Zo]at o;by_cases s:gg (Y.kd (Nd.mk id (.mk b v n d i g) j f a bs h).t) q
    .have S:b=9\/b=11:=s.1;obtain⟨B,L,F,M,Q,au,ar,bm,bt,bn,az⟩:=Mf S C am q D z s.2;have ba:e8 b q=1:=by rw[od,aM (show gg b q from s)]
     rw[aM s]at o R;simp only[Nd.ks]at o R;rw[ba]at P;obtain⟨aN,bj,bI,aO,bk,bJ,bK,a0⟩:(∀m,a[q].eR m=L.eR m)/\a[q].ep=L.ep/\a[q].aZ=L.aZ/\nw L/\(∀p∈F,O.w p.e.t)/\L.num+F.length<=a[q].num/\B.num<=g[q].num/\SizeOf.sizeOf B<SizeOf.sizeOf (Y.mk b v n d i g):=by
      have aE:=cH (ax D);by_cases aL:b=9
      .rw[aM aL]at M Q;obtain⟨bH,bC,bF,bD,Z⟩:=Q;have ai:=(C.cM q D z).is;have aJ:=(X _ V).own;have J:∃u,a[q].ks=[u]/\Y.kd a[q].t=10:=by
        rw[Z]at ai;generalize a[q]=G at ai;cases ai with|mk bb r aW U a6=>
        obtain⟨u,rfl⟩:=hP.1 U;exact⟨u,A,A⟩
       obtain⟨u,J,be⟩:=J;obtain⟨rfl,rfl⟩:=Prod.mk.inj M;have bd:a[q].ks.headD a[q]=u:=by rw[J];rfl
       rw[bd];have ae:=Iy be J;refine⟨λm=>(ae m).1,(ae 0).2.1,(ae 0).2.2,aJ.2 u (by rw[J];simp),aJ.1.2,?_,?_,?_⟩
       .have:∀G:Nd,G.ks=[u]->u.num+G.bs.length<=G.num:=λG ap=>by
         obtain⟨bu,bv,bw,bx,bz,bA,bB⟩:=G;simp only[Nd.ks]at ap;subst ap;rw[Nd.num,Nd.aR,Nd.aR];simp only[Nd.bs];omega
        exact this _ J
       .rw[Z,Y.num,Y.aR,Y.aR];omega
       .rw[Z]at aE;simp at aE⊢;omega
      .rw[av aL]at M Q;obtain⟨rfl,rfl⟩:=Prod.mk.inj M;subst Q;exact⟨λ_=>A,A,A,X _ V,Zs,Zs,b_ _,by simp;omega⟩
     have aB:∀p∈K++F,O.w p.e.t:=λp r=>(cg.1 r).elim (aA p) (bk p);have a1:(Nd.mk id (.mk b v n d i g) j f a bs h).bE[q-1]?=E (L,F):=by
      show((a.drop 1).map λB=>if b=9 then(B.ks.headD B,B.bs)else(B,[]))[q-1]?=_;have:=s.2;rw[gF,List.getElem?_drop,show 1+(q-1)=q by omega,bR z,ey,M]
     rw[a1]at o;simp only[Option.toList_some,bp,cB,bf,a8]at o;have aY:(Nd.mk id (.mk b v n d i g) j f a bs h).cap.length<=409600:=by
      have aU:=((zT _ aC C.is ab (by rw[Y.num];omega)).own.1.1 S).1;rw[yU];have aP:=wP (n:=640) (Nd.mk id (.mk b v n d i g) j f a bs h).bE [] λbi W=>by have:=(w_ aU bi W).1;omega
      have aQ:=s4 (.mk id (.mk b v n d i g) j f a bs h);have aS:(Nd.mk id (.mk b v n d i g) j f a bs h).bE.length<=640:=by simp only[Nd.ks]at aQ;omega
      have bl:=ui 640 aS;simp only[gG,ek]at aP;omega
     by_cases a3:k=(fA (.mk id (.mk b v n d i g) j f a bs h) q).length
     .rw[a3,uj]at o;simp only[List.getElem?_cons_zero,dy]at o;subst o;have a9:m+k=cj b (a.map Nd.aZ) m q:=Zo;rw[a9];refine⟨⟨B,K,_,au,ar,aB,λp r=>(Ix S C am p r).2,by simp only[Nd.l];omega,az⟩,aO,aH,ab,by simp only;omega,b_ _,λI s=>P I (by rw[aN];exact s),⟨_,by
       have aT:Y.kd (Nd.mk id (.mk b v n d i g) j f a bs h).t=9\/Y.kd (Nd.mk id (.mk b v n d i g) j f a bs h).t=11:=S;rw[oR,aM aT];exact eE _ (bG.2 A),aG.2 ⟨q,?_,A⟩⟩,by simp only;omega,aY⟩
      rw[List.mem_range'_1];have:=s.2;exact⟨Zo,by simp only[Nd.ks];omega⟩
     .rw[show k-(fA (.mk id (.mk b v n d i g) j f a bs h) q).length=(k-(fA (.mk id (.mk b v n d i g) j f a bs h) q).length-1)+1 by omega,v8,bj]at o;have aq:∀k,oE (ids (Nd.mk id (.mk b v n d i g) j f a bs h).cap++ids F) k∉ids (Nd.mk id (.mk b v n d i g) j f a bs h).cap++ids F:=λk=>pw;have ah:=Ej W B (cj b (a.map Nd.aZ) m q+1) au ar (az (oE (ids (Nd.mk id (.mk b v n d i g) j f a bs h).cap++ids F)) (λk p r u=>aq k (by rw[u];exact eE _ (aG.2 ⟨p,r,A⟩))) (λk u=>aq k (eN _ u))) aB aO ab Zo Zo _ y o;have:=ah.lift (nd:=.mk id (.mk b v n d i g) j f a bs h) (m:=m) (λI s=>P I (by rw[aN];exact s)) Zo Zo;rwa[show cj b (a.map Nd.aZ) m q+1+(k-(fA (.mk id (.mk b v n d i g) j f a bs h) q).length-1)=m+k by omega]at this
    .rw[av s]at o R;rw[a8]at o;simp only[Nd.ks]at o R;have a_:e8 b q=0:=by rw[od,av (show¬gg b q from s)]
     rw[a_,kL]at P;have ah:=Ej W g[q] (cj b (a.map Nd.aZ) m q) (by rw[Ne,aC.case q D];exact λu=>s ⟨.inl u.1,u.2⟩) (C.cM q D z) (am.cM C ak q D z) (λp r=>by
      rcases cg.1 r with r|r
      .exact aA p r
      .split at r
       .exact aI p r
       .cases r) (X _ V) (by unfold bL;split<;>omega) (by unfold bL;split<;>omega) Zo _ y o
     have:=ah.lift (nd:=.mk id (.mk b v n d i g) j f a bs h) (m:=m) P Zo Zo;rwa[show cj b (a.map Nd.aZ) m q+(k-(fA (.mk id (.mk b v n d i g) j f a bs h) q).length)=m+k by omega]at this
  intro k y o;rw[AN]at o;exact bh a.length (b_ _) k y o
termination_by d=>d
decreasing_by
 all_goals first|exact a0|(have:=cH (ax D);simp;omega)
structure rp (r:Rt) (o:Nat->Nat):Prop where
 inj:∀i j,o i=o j->i=j
 cap:∀j,∀b∈r.2.2.cap,o j≠b.id
 Ji:∀j,o j∉ids r.2.1
variable {g4:aD}{V:Nat}
def yG(a:oE g4 h=oE g4 V):h=V:=by unfold oE at a;omega
variable {m2:b5}
def rp.gr{a:Rt}(f:rp a m2):((List.range (bY a.2.2.l a.2.2.cap).length).map λi=>((gf (ids a.2.1++eM a.2.2.l m2 a.2.2.cap 0++(ids (bY a.2.2.l a.2.2.cap)).take i) (m2 i):Nat):Int))=gr a.2.2.cap.length (a.2.2.cap.map λb=>decide (b.e.l=a.2.2.l+1)) 0 0:=by
 rw[<-zq a.2.2.l m2 f.inj a.2.2.cap.length a.2.2.cap (ids a.2.1) 0 0 (λb g k=>f.cap k b g) Zs];refine gX λd h=>?_;have h:d<(bY a.2.2.l a.2.2.cap).length:=by simpa using h
 rw[ek,ti]
 .have:((ids (bY a.2.2.l a.2.2.cap)).take d).length=d:=by simp[ids];omega
  rw[this]
 .intro m;obtain⟨b,g,j⟩:=aG.1 (p9 m);exact f.cap d b (ko.1 g).1 j.symm
variable {m7:Nd}
def Good.any{a:Rt}(m:Good a4 a5 m7 h a V){b f:b5}(d:rp a b)(j:rp a f)(g:Nat):lK a4 a5 a b g=lK a4 a5 a f g:=by
 obtain⟨l,r,s,p,o,-,-,-,q⟩:=m.cx;have k:=λ(b:b5)(d:rp a b)=>(ED (λ_ e=>oE (a.1.ids++ids (r++a.2.1)) e) (λ_ e t=>yG) l g p o (q b d.cap d.Ji) (λu e=>⟨λi=>pw (eE _ i),λi=>pw (eN _ i)⟩)).1;unfold lK;rw[d.gr,j.gr,k b d,k f j]
variable {sm:cb}{fd:bt}{AC:List Rt}{WP:List i_}
def Ti(j:ja a4 a5 sm fd h V AC (WP.map λi=>i.2.1.id) (WP.map dJ)):∃l:aD,19∈l/\21∈l/\(∀b∈l,b∈LT)/\∀b∈l,∀g,fd b=E g->∀e∈g.cells,In l e:=by
 obtain⟨⟨ae,am,ak,o,M,P,-,p,W,R⟩,L,-⟩:=j;have q:∀{S s u:Nat}{o:ct}{r:D},aH [S] fd s u o r->(∀i∈o,∀e∈i,Cl e)->∃k:aD,(∀b∈k,b=S)/\(∀m:aD,(∀b∈k,b∈m)->In m r)/\∀b∈k,∀g,fd b=E g->∀e∈g.cells,Cl e:=by
  intro S s u o r U Q;rcases U with⟨-,rfl⟩|⟨b,Z,a,rfl,X⟩
  .exact⟨[],Zs,λm _=>(aO _).cD,Zs⟩
  .simp only[bG]at a;subst a;refine⟨[b],Zs,λm O=>.ms _ _ (O b Zs),λab t g f e d=>?_⟩;simp only[bG]at t;subst t;rw[X]at f;cases f;obtain⟨i,p,d⟩:=ft.1 d;exact Q i p e d
 obtain⟨k,x,y,z⟩:=q P λi j=>(p i j).2;obtain⟨B,A,C,F⟩:=q W λi j e d=>by obtain⟨Y,-,rfl⟩:=aG.1 j;simp at d;subst d;exact Nd.cl _
 obtain⟨w,G,I,J⟩:=q R λi j e d=>by obtain⟨Y,-,rfl⟩:=aG.1 j;simp at d;subst d;exact oH _
 refine⟨19::21::(k++(B++w)),Zs,Zs,λb a=>?_,λb a g f e d=>?_⟩
 .simp only[cJ,cg]at a;rcases a with rfl|rfl|a|a|a
  .simp
  .simp
  .rw[x b a];simp
  .rw[A b a];simp
  .rw[G b a];simp
 .simp only[cJ,cg]at a;rcases a with rfl|rfl|a|a|a
  .rw[L]at f;cases f;obtain⟨K,-,rfl⟩:=aG.1 d;exact(zj K).cD
  .rw[M]at f;cases f;simp only[cJ,cS,iz]at d;rcases d with rfl|rfl|rfl|rfl|rfl|rfl
   .exact(ai.cI a4).cD
   .exact(ah.cI a5).cD
   .exact y _ λb a=>by simp[a]
   .exact C _ λb a=>by simp[a]
   .exact I _ λb a=>by simp[a]
   .exact .mp _ Zs
  .exact(z b a g f e d).cD
  .exact(F b a g f e d).cD
  .exact(J b a g f e d).cD
end
section
open Go.RowKit Classical
attribute [local go_sem] Oper.semAt_some
def N':yk aB 199 5 (λe=>.agg #[e 0,e 1,e 2,e 3,e 4]):=by
 refine⟨enters_of func199 Zk A,λS y z U len C a d f o u p hlen t j r h0=>?_⟩;refine callsIn_of_wp func199 A trivial ?_ A;simp only[ntmps199,nq,di,gG,Nat.reduceAdd,Nat.reduceSub,Array.replicate_succ,Array.replicate_zero,List.push_toArray,List.append_toArray,a8,bf];have G:=(j 0 p h0).1
 gi_wp2
 gi_loopw [3] (λg wr=>∃k,o k wr/\((k=len/\g=.int .i64 (-1))\/∃m:Nat,m+1+k=len/\g=.int .i64 m)) λg _=>(intOf g+1).toNat
 case atStart=>
  exact BS
 case round=>
  obtain⟨k,i,s⟩:=hrel;obtain⟨I,b⟩:=j k _ i;rcases s with⟨rfl,rfl⟩|⟨m,P,rfl⟩
  .gi_wp2
   go_end0
   exact⟨⟨_,A⟩,.inl i⟩
  .have J:wr.cell? ⟨a,d+m*5,aa⟩=E (f m 0):=by simpa using b m 0 Zo Zo
   have K:wr.cell? ⟨a,d+m*5+1,aa⟩=E (f m 1):=by simpa using b m 1 Zo Zo
   have L:wr.cell? ⟨a,d+m*5+2,aa⟩=E (f m 2):=by simpa using b m 2 Zo Zo
   have M:wr.cell? ⟨a,d+m*5+3,aa⟩=E (f m 3):=by simpa using b m 3 Zo Zo
   have O:wr.cell? ⟨a,d+m*5+4,aa⟩=E (f m 4):=by simpa using b m 4 Zo Zo
   obtain rfl:=t Zo;have l:=r k wr Zo i;rw[show len-1-k=m by omega]at l;obtain⟨F,V,x,B,R,q⟩:=l;have Q:m<len:=Zo
   gi_wp2
   refine q.mono ?_;rintro D w(⟨rfl,CX⟩|⟨rfl,CY⟩)
   .gi_wp2
    exact BP
   .gi_wp2
    exact Br
def Oc(b:List bQ):au 140 [.sl 5 (b.map aW)] (.fn 199 [] [.cp [.sl 5 (b.map aW)]]):=by
 refine Sp.s [] [.tmp 2] func140 ntmps140 ?_;exact .cl _ (.fn _ [] _ Zs λd e a=>by match d,a with|0,a=>cases a;exact eO.cp (.c (Cl.fH (nc b)) .n))
end
section
open Classical
def eu(L:Int):List Bi->List Bi->List Bi
 |[],_=>[]
 |b::bs,ar=>if b.e.l=L+1 then ar.headD b::eu L bs ar.tail else b::eu L bs ar
def Bb{L:Int}{b:Bi}:∀(f d h:aX),d.length=(bY L f).length->eu L (f++[b]) (d++h)=eu L f d++eu L [b] h
 |[],d,h,g=>by
  have:d=[]:=by simpa[bY]using g
  subst this;rfl
 |c::f,d,h,g=>by
  rw[bf,eu,eu];by_cases i:c.e.l=L+1
  .have j:bY L (c::f)=c::bY L f:=by simp[bY,i]
   rw[j]at g
   match d,g with
   |a::d,g=>
    rw[aM i,aM i];simp only[bf,qZ,List.tail_cons];rw[Bb f d h (by simpa using g)]
  .have j:bY L (c::f)=bY L f:=by simp[bY,i]
   rw[j]at g;rw[av i,av i,Bb f d h g];rfl
def Ca(a:Int)(d:aX)(b:Bi):bY a (d++[b])=bY a d++(if b.e.l=a+1 then[b]else[]):=by
 unfold bY;rw[List.filter_append];congr 1;by_cases f:b.e.l=a+1<;>simp[f]
def sr{L:Int}:∀(d a:aX),(eu L d a).length=d.length
 |[],_=>rfl
 |b::bs,a=>by rw[eu];split<;>simp[sr bs]
def EP{f:Int}{o:b5}:∀(p d:aX)(k:Nat),d.length=(bY f p).length->(∀(j:Nat)(g:j<d.length),o (k+j)=d[j].id)->ids (eu f p d)=eM f o p k
 |[],_,_,_,_=>rfl
 |b::bs,d,k,g,i=>by
  rw[eu,eM];by_cases h:b.e.l=f+1
  .have m:bY f (b::bs)=b::bY f bs:=by simp[bY,h]
   rw[m]at g
   match d,g,i with
   |a::d,g,i=>
    rw[aM h,aM h];have q:=i 0 Zs;have:=EP bs d (k+1) (by simpa using g) (λj r=>by have:=i (j+1) (by simpa using r);simpa[re,rh 1]using this);simp only[ids,qZ,List.tail_cons,bp]at this⊢;rw[this];simp at q;rw[q]
  .have m:bY f (b::bs)=bY f bs:=by simp[bY,h]
   rw[m]at g;rw[av h,av h];have:=EP bs d k g i;simp only[ids,bp]at this⊢;rw[this]
def Tz{r:Rt}{ar:aD}(q:ar.Nodup)(o:∀f∈ar,∀e∈r.2.2.cap,f≠e.id)(p:∀f∈ar,f∉ids r.2.1):∃m,rp r m/\∀(a:Nat)(b:a<ar.length),m a=ar[a]:=by
 let B:=ar++(ids r.2.2.cap++ids r.2.1)
 refine⟨λa=>if b:a<ar.length then ar[a]else oE B a,⟨λa j b=>?_,λj e i d=>?_,λj d=>?_⟩,λa b=>by simp[b]⟩
 .have k:∀(a:Nat)(b:a<ar.length),ar[a]∈B:=λa b=>eE _ (ax b);split at b<;>split at b
  .rename_i g h;exact(List.getElem_inj q).1 b
  .rename_i g h;exact absurd (b▸k a g) pw
  .rename_i g h;exact absurd (b▸k j h) pw
  .exact yG b
 .split at d
  .exact o _ (ax _) e i d
  .exact pw (l:=B) (j:=j) (d▸eN _ (eE _ (aG.2 ⟨e,i,A⟩)))
 .split at d
  .exact p _ (ax _) d
  .exact pw (l:=B) (j:=j) (eN _ (eN _ d))
def Xd(b:aX)(a:Bi)(D:a.id∈ids b)(I:b.length<=1000000)(G:dp a.e.t){t g z:Nat}{H0:bt}(s:t≠4)(l:H0 t=E ⟨g,217,1,(aq Bi.d b).flatten,aa⟩)(J:z=(aq Bi.d b).length):
 i' aB [t] H0 129 [.ms t g z,a.d] λi=>i=.ag (aW ⟨dw (gf (ids b) a.id:Nat),[cf a.e.t]⟩):=by
 have q:=indexOf b a D I;have o:=Bi.cl a;obtain⟨w,B,y,R,S,L,f⟩:=Bi.vw a;have h:=made 1 (gf (ids b) a.id:Nat) [] a.e.t [] G Zs Zs Zs (.inr ⟨A,A⟩);rw[L]at h⊢;rw[f]at q o⊢;simp only[O.ds]at h;refine i'.eo [] [.cell 4 125] func129 A Zk ntmps129 A Zs ?_ λU Q P=>?_
 .intro V u ob r C F;simp only[bG]at u;subst u;rw[l]at r;cases r;obtain⟨i,K,p⟩:=ft.1 F;obtain⟨j,-,rfl⟩:=aG.1 K;simp only[bG]at p;subst p;exact(Bi.cl j).cD
 have m:bi [t] H0 t=H0 t:=by simp[bi]
 generalize bi [t] H0=M at*;simp only[go_sem];refine mc [0,1,4,5,6,7,2,3,8,9] [] [] ?_;simp only[go_sem];refine wO q (.c (Fz.rows (ob:=⟨g,217,1,(aq Bi.d b).flatten,aa⟩) (by simp[aj,s,m,l]) A A Zd J (e_ _) A (by simp only[aq,aG];rintro i⟨j,_,rfl⟩C f;simp at f;subst f;exact Bi.cl j)) (.c (.cl _ o) .n)) A ?_;simp only[go_sem];refine bO (IU _) ?_;refine fm [] h (.c (.cl _ (Cl.bu cu)) (.c (.cl _ (Cl.bu (O.cl (.mk w B y)))) (.c (.nil 5) .n))) (Cl.bu (dF _)) ?_;simp only[aW,aN,fX,go_sem];refine⟨Cl.bu (dF ⟨dw (gf (ids b) a.id:Nat),[cf (.mk w B y)]⟩),A,?_⟩;simp[s,m]
variable {g3:ay}{g4:aD}{gc:aU}{h V:Nat}
def GK.NX{b:St}{d p f:Nat}{e k:aQ}{bx:ct}(x:V≠d)(hi:cy g3 e=E (k,f,p))(s:b.env V=a')(C:cF b k f (b.env d)=E (bx.length,bx.flatten))(D:bx=[]->b.env d=.sl f [])(l:bx.flatten.all b4=ad)
 (w:bx.length*p<=140737488355328) (y:bx.length<=ao)
 (r:∀H n i q,(∀j,j≠d->q j=b.env j)->aH [h] H k f bx i->(bx=[]->i=a')->(∀g,g≠h->H g=b.H g)->gc ({b with env:=q,H:=H,n:=n}.put (E h) i)):
 GK (dS g3 g4 (.call ⟨.builtin .append,#[.tmp V,.tmp d],#[e,e]⟩) (E h) gc) b:=by
 by_cases m:bx=[]
 .subst m;have t:∀v,(v=.slice aa 0 0\/∃a c,v=.slice (E a) 0 c)->dS g3 g4 (.call ⟨.builtin .append,#[.tmp V,.tmp d],#[e,e]⟩) (E h) gc {b with env:=af b.env d (.sc v)}:=λv hv=>by
   show ls h gc (fr g3 g4 _ h (.call ⟨.builtin .append,#[.tmp V,.tmp d],#[e,e]⟩));have e1:af b.env d (.sc v) V=a':=by simp only[af];rw[av x];exact s
   have e2:af b.env d (.sc v) d=.sc v:=by simp[af]
   have z:fr g3 g4 {b with env:=af b.env d (.sc v)} h (.call ⟨.builtin .append,#[.tmp V,.tmp d],#[e,e]⟩)=E (True,{b with env:=af b.env d (.sc v)},.sc (.slice aa 0 0)):=by
    exact FI
   rw[z];exact⟨trivial,r b.H b.n _ _ (λj B=>by simp[af,B]) .nil (λ_=>A) λ_ _=>A⟩
  exact GK.empty d f (D A) (t _ (.inl A)) λa c=>t _ (.inr ⟨a,c,A⟩)
 .exact GK.intro (dS.eF (S:=[]) (rows:=[]) hi (.inl ⟨A,s⟩) Zs C (q0.2 m) l (by simpa using w) (by simpa using y) λH n i l u=>r H n i b.env (λ_ _=>A) (by simpa using l) (λo=>absurd o m) λg o=>u g o Zs)
variable {i0:ON}
def Pe{e:St}{a:aX}{v:D}(u:aH g4 e.H 217 1 (aq Bi.d a) v)(w:a=[]->v=a')(o:5∉g4)(G:7∉g4)(I:a.length<=2000000)
 (i:∀H n k,aH [7] H 217 1 (aq Bi.d a) k->(∀b,b≠7->b≠5->H b=e.H b)->gc ({e with H:=H,n:=n}.put i0 k)):gx aB e 139 [v] i0 gc:=by
 have jL:cy aB 216=E (217,1,8):=Zk;refine pz [1000007] [.tmp 2] func139 A Zk ntmps139 A Zs ?_;rcases u with⟨m,rfl⟩|⟨b,F,s,rfl,r⟩
 .simp only[go_sem];exact i _ _ _ (.inl ⟨m,A⟩) λb _ _=>A
 .have q:a≠[]:=λg=>by have:=w g;cases this
  have t:b≠5:=λg=>o (g▸s);have f:=dC Bi.d a;simp only[go_sem];refine GK.intro (dS.eF (S:=[5]) (rows:=[]) (bx:=aq Bi.d a) jL (.inr ⟨5,e.n 5,Zs,by simp[af],by simp[aj]⟩) Zs (by simp[af,cF,aj,t,r,iq,f]) (by rw[f];exact q0.2 q) (by rw[b6];intro C j;rw[iq]at j;obtain⟨z,-,rfl⟩:=aG.1 j;exact Bi.one z) (by rw[f];simp;omega) (by rw[f];unfold ao;simp;omega) λB J K x p=>?_);simp only[go_sem];refine i _ _ _ (by simpa using x) λy l h=>?_;rw[p y l (by simpa using h)];simp[aj,h]
end
section
open Classical
def m_(p:b5)(H:bt):Nat->ux:=λt=>(H (p t)).map (Ob.aJ p)
def LX{p:b5}(b:∀d,p (p d)=d)(a:bt):m_ p (m_ p a)=a:=by
 funext e;show((a (p (p e))).map _).map _=_;rw[b];exact Ob.jp b _
def Tm{p:b5}(b:∀a,p (p a)=a)(L:aD):(L.map p).map p=L:=by
 rw[dZ];conv=>rhs;rw[<-List.map_id L]
 exact gX λa _=>b a
def In.aJ{p:b5}{L:aD}{g:D}(h:In L g):In (L.map p) (g.aJ p):=by
 induction h with
 |sc v=>exact .sc v
 |any=>exact .any
 |sl q _ a=>rw[D.aJ];exact .sl _ λe u m g d k=>by obtain⟨o,b,rfl⟩:=AH d;obtain⟨d0,j,rfl⟩:=kC k;exact a e o m d0 b j
 |cs q _ a=>rw[D.aJ];exact .cs _ (by rw[D.aJ]at a;exact a)
 |ag _ a=>rw[D.aJ];exact .ag λe g d=>by obtain⟨d0,b,rfl⟩:=kC d;exact a e d0 b
 |tp _ a=>rw[D.aJ];exact .tp λe g d=>by obtain⟨d0,b,rfl⟩:=kC d;exact a e d0 b
 |cp _ a=>rw[D.aJ];exact .cp λe g d=>by obtain⟨d0,b,rfl⟩:=kC d;exact a e d0 b
 |pa r _ a=>rw[D.aJ];exact .pa _ λe g d=>by obtain⟨d0,b,rfl⟩:=kC d;exact a e d0 b
 |rf i t h=>rw[D.aJ];exact .rf _ _ (List.mem_map_of_mem h)
 |ms i s h=>rw[D.aJ];exact .ms _ _ (List.mem_map_of_mem h)
 |mp i h=>rw[D.aJ];exact .mp _ (List.mem_map_of_mem h)
 |fn f _ _ a l=>rw[D.aJ];exact .fn _ (λe g d=>by obtain⟨d0,b,rfl⟩:=kC d;exact a e d0 b) λe g d=>by obtain⟨d0,b,rfl⟩:=kC d;exact l e d0 b
def Rv{p:b5}(o:∀h,p (p h)=h){L:aD}{e:bt}(j:∀d∈L,∀a,e d=E a->∀b∈a.cells,In L b):∀d∈L.map p,∀a,m_ p e d=E a->∀b∈a.cells,In (L.map p) b:=by
 intro d q a g b l;obtain⟨t0,k,rfl⟩:=aG.1 q;simp only[m_,o]at g;obtain⟨r,i,rfl⟩:=jg.1 g;obtain⟨d0,m,rfl⟩:=aG.1 l;exact In.aJ (j t0 k r i d0 m)
section
variable{P:ay}{L:aD}{H0:bt}{f:bK}{ar:DL}{Q:D->Prop}{p:b5}
def L3(e:∀d,p (p d)=d){b:St}(g:∀a∈L.map p,b.H a=m_ p H0 a):∀a∈L,(b.aJ p).H a=H0 a:=λa h=>by
 show(b.H (p a)).map (Ob.aJ p)=_;rw[g _ (List.mem_map_of_mem h)];have:=congrFun (LX e H0) a;exact this
def tO(h:∀e,p (p e)=e)(a:St)(n:b5)(d:ON){b:D}(g:Cl b):(({a.aJ p with n:=n}:St).put d b).aJ p=({a with n:=λi=>n (p i)}:St).put d b:=by
 rw[St.tO,D.gO g];congr 1;have:=St.jp h a;obtain⟨m,j,o,q,l,k⟩:=a;simp only[St.aJ,St.mk.injEq]at this⊢;exact⟨this.1,this.2.1,trivial,trivial,trivial,trivial⟩
def i'.aJ(a:∀g,p (p g)=g)(h:i' P L H0 f ar Q)(j:D.fV p ar=ar):i' P (L.map p) (m_ p H0) f ar Q:=λe b q l i=>
 yR p a (by rw[j];exact h (e.aJ p) b _ (L3 a l) λm o k d=>by rw[tO a e m b d];exact i _ o k d)
def p_.aJ(a:∀g,p (p g)=g)(h:p_ P L H0 f ar Q)(k:D.fV p ar=ar):p_ P (L.map p) (m_ p H0) f ar Q:=λe b r j m i=>
 yR p a (by rw[k];exact h (e.aJ p) b _ j (L3 a m) λo q l d=>by rw[tO a e o b d];exact i _ q l d)
end
def ke(x:Nat):Nat:=if x=19 then 919 else if x=919 then 19 else x
def x5(a:Nat):ke (ke a)=a:=by
 unfold ke;by_cases b:a=19
 .subst b;rfl
 .by_cases d:a=919
  .subst d;rfl
  .simp[b,d]
def NQ(i:View)(b:Nat->aE)(h:DL)(k:h.length=5)(g:∀(j:Nat)(d:D),h[j]?=E d->Rd i d (b j)):Rd i (.ag h) (.agg #[b 0,b 1,b 2,b 3,b 4]):=
 .ag h [b 0,b 1,b 2,b 3,b 4] k λl d v e a=>by
  match l,a with
  |0,a=>cases a;exact g 0 d e
  |1,a=>cases a;exact g 1 d e
  |2,a=>cases a;exact g 2 d e
  |3,a=>cases a;exact g 3 d e
  |4,a=>cases a;exact g 4 d e
end
section
open Classical
def EQ{h:Int}:∀(f a:aX),a.length=(bY h f).length->∀i∈a,i∈eu h f a
 |[],a,g,i,d=>by
  have:a=[]:=by simpa[bY]using g
  rw[this]at d;cases d
 |c::f,a,g,i,d=>by
  rw[eu];by_cases j:c.e.l=h+1
  .have k:bY h (c::f)=c::bY h f:=by simp[bY,j]
   rw[k]at g;rw[aM j]
   match a,g,d with
   |b::a,g,d=>
    rcases cJ.1 d with rfl|d
    .simp
    .exact np _ (EQ f a (by simpa using g) i d)
  .have k:bY h (c::f)=bY h f:=by simp[bY,j]
   rw[k]at g;rw[av j];exact np _ (EQ f a g i d)
variable {a0:Int}
def Nr:∀(d b:aX),∀a∈eu a0 d b,a∈d\/a∈b
 |[],_,a,h=>by simp[eu]at h
 |c::d,b,a,h=>by
  have j:∀(e:Bi)(f:aX),(e=c\/e∈b)->(∀i∈f,i∈b)->a∈e::eu a0 d f->a∈c::d\/a∈b:=λe f l m h=>by
   rcases cJ.1 h with rfl|h
   .exact l.imp (λk=>by simp[k]) id
   .exact(Nr d f a h).imp (np _) (m a)
  rw[eu]at h;split at h
  .refine j _ _ ?_ (λi g=>List.mem_of_mem_tail g) h;cases b with
   |nil=>exact .inl A
   |cons e b=>exact .inr Zs
  .exact j _ _ (.inl A) (λi g=>g) h
def S2(b:IL)(a:Core):mU b a=(b.map dw).foldr (λd a=>.mk 7 0 [] [d,a]) a:=by unfold mU;rw[List.foldr_map]
def Bi.T4(a:Bi):∃b f g,a.e.t=.mk b f g/\a.d=.pa a.id [S a.e.n,I b,S f,.sl 3 (O.ae g),I a.e.l]:=by
 obtain⟨h,j,⟨b,f,k⟩,i⟩:=a;exact⟨_,_,_,A,A⟩
variable {h V a2:Nat}{WP:List i_}{m2:b5}
def branch{Z:aw}{aY:aF}(gh:fR Z aY)(fM:Z.length<=1000)(fI:∀d∈Z,(ai.cs d).length<=1000){ay:aD}{W:bt}{J:List Rt}(bj:LS Z aY ay W h V J WP)
 {c7:Nd} {G:Nat} {r:Rt} (R:Good Z aY c7 a2 r G) (hv:c7.num<=1000) (dA:J[G]?=E r) (hu:a2+c7.aZ<=10000) (eY:∀f∈c7.eR a2,f∈WP.map Prod.snd)
 (fY:∀b2∈WP,b2.2.2.length<=1000) (gg:∀f∈WP,∀b2∈WP,G∈f.2.2->G∈b2.2.2->b2=f) (ge:rp r m2):
 p_ aB ay W 85 [.rf 21 h 0,I G] (po (lK Z aY r m2 (G+1)) 1000000000000):=by
 have eV:∀{f:bK}{ar:DL}{eb:D->Prop},i' aB ay W f ar eb->D.fV ke ar=ar->i' aB (ay.map ke) (m_ ke W) f ar eb:=λp B=>i'.aJ x5 p B
 suffices p:p_ aB (ay.map ke) (m_ ke W) 85 [.rf 21 h 0,I G] (po (lK Z aY r m2 (G+1)) 1000000000000)by
  have:=p_.aJ x5 p A;rwa[Tm x5,LX x5]at this
 obtain⟨Q,s,i⟩:=r;obtain⟨gP,c2,bn⟩:=R.own;obtain⟨⟨dE,f0⟩,eA,eB⟩:=aG.1 (eY _ c2);simp only at eB;subst eB;obtain⟨⟨gZ,g1,g0,rows,b8,-,hw,-,fy,fx⟩,-,-⟩:=bj.st;have cY:G<J.length:=(ej.1 dA).1;have gx:∃g,g1=.ms 137 g J.length/\W 137=E ⟨g,174,1,(aq Nd.d (J.map Prod.fst)).flatten,aa⟩:=by
  obtain⟨g,F,p⟩:=fG fy (by intro j;have:=dO List.length j;simp[aq]at this;rw[this]at cY;simp at cY);exact⟨g,by simpa[aq]using F,p⟩
 have gw:∃g,g0=.ms 147 g J.length/\W 147=E ⟨g,216,1,(aq cT (J.map λr=>r.2.1)).flatten,aa⟩:=by
  obtain⟨g,F,p⟩:=fG fx (by intro j;have:=dO List.length j;simp[aq]at this;rw[this]at cY;simp at cY);exact⟨g,by simpa[aq]using F,p⟩
 obtain⟨dj,rfl,dl⟩:=gx;obtain⟨di,rfl,dm⟩:=gw;have ck:=bj.m21;have dU:147∈ay:=by
  have:=bj.cD 21 ck _ b8 (.ms 147 di J.length) Zs;cases this with|ms _ _ p=>exact p
 have dT:137∈ay:=by
  have:=bj.cD 21 ck _ b8 (.ms 137 dj J.length) Zs;cases this with|ms _ _ p=>exact p
 have fQ:=eV (Qh bj eA bn (λb2 K M=>gg _ eA b2 K bn M) fY) A;have fT:=Rv x5 bj.cD;have aK:∀t∈ay.map ke,t=919\/t=21\/t=126\/t=137\/t=147:=λt m=>by
  obtain⟨bz,gp,rfl⟩:=aG.1 m;have:=bj.sub bz gp;simp at this;rcases this with rfl|rfl|rfl|rfl|rfl<;>simp[ke]
 replace ck:21∈ay.map ke:=aG.2 ⟨_,ck,A⟩;replace dT:137∈ay.map ke:=aG.2 ⟨_,dT,A⟩;replace dU:147∈ay.map ke:=aG.2 ⟨_,dU,A⟩;replace b8:m_ ke W 21=E ⟨h,173,6,[ai.sl Z,ah.sl aY,gZ.aJ ke,.ms 137 dj J.length,.ms 147 di J.length,.mp 919 V],aa⟩:=by
  show(W 21).map _=_;rw[b8];simp only[ey,Ob.aJ,bp,cB,D.gO (ai.cI Z),D.gO (ah.cI aY),D.aJ];rfl
 replace dl:m_ ke W 137=E ⟨dj,174,1,(aq Nd.d (J.map Prod.fst)).flatten,aa⟩:=by
  show(W 137).map _=_;rw[dl];simp only[ey,Ob.aJ,iq,dZ];congr 2;exact gX λQ _=>D.gO (Nd.cl _)
 replace dm:m_ ke W 147=E ⟨di,216,1,(aq cT (J.map λr=>r.2.1)).flatten,aa⟩:=by
  show(W 147).map _=_;rw[dm];simp only[ey,Ob.aJ,iq,dZ];congr 2;exact gX λQ _=>D.gO (oH _)
 generalize ho:ay.map ke=a_ at*;generalize hn:m_ ke W=H0 at*;have fF:(aq cT (J.map λr=>r.2.1)).flatten[G]?=E (cT s):=by rw[iq,dZ,gF,dA];rfl
 have fK:(aq Nd.d (J.map Prod.fst)).flatten[G]?=E Q.d:=by rw[iq,dZ,gF,dA];rfl
 have hs:(aq cT (J.map λr=>r.2.1)).flatten.length=J.length:=by rw[iq];simp
 have ht:(aq Nd.d (J.map Prod.fst)).flatten.length=J.length:=by rw[iq];simp
 have eT:((G:Int)<(J.length:Int))=True:=bP Zo;have eS:((0:Int)<=(G:Int))=True:=bP Zo;obtain⟨aQ,aS,aR,b0,g6,g7,g8,g9,g',g_,ha,hc,bb,bN,e0,br⟩:=Nd.LG i;have c0:dp i.ty:=oS _ R.wn.own.1.1.1;have jL:cy aB 216=E (217,1,8):=Zk;refine p_.Aw [19,68,1000129,1000039,1000069,1000072,1000076,1000080,1000084,1000103,1000107,1000109,1000119] [.cell 4 125] func85 A Zk ntmps85 A Zs ?_ λbs fc=>?_
 .exact fT
 have cP:∀t∈a_,bi a_ H0 t=H0 t:=λt m=>by simp[bi,m]
 have fv:=(cP 21 ck).trans b8;have ft:=(cP 147 dU).trans dm;generalize bi a_ H0=g4 at*;simp only[go_sem];refine .inr (.inr (fQ _ _ _ (λt m=>by have:=aK t m;simp[aj];rw[av Zo,av Zo];exact cP t m) λbv d cR hr=>?_));subst cR;simp only[dJ,br,fv,ft,eT,eS,fF,List.head?_drop,lc,go_sem];have hp:s.length<=1000:=by have:=R.n1;simp only at this;omega
 have fJ:=R.cl;simp only at fJ;refine GK.NX (bx:=aq Bi.d s) Zd jL iN (by simp[af,cF,iq,cT]) (λj=>by simp[af,cT,j]) (by rw[b6];intro d cR;rw[iq]at cR;obtain⟨ct,-,rfl⟩:=aG.1 cR;exact Bi.one ct) (by rw[dC];omega) (by rw[dC];unfold ao;omega) λfb hx hH hd b' c2 gs cO=>?_;have dY:=b' 0 Zd;have c':=b' 1 Zd;have da:=b' 4 Zd;have db:=b' 5 Zd;have d':=b' 6 Zd;have dW:=cO 4 Zd;have dX:=cO 6 Zd;have fa:∀t∈a_,fb t=H0 t:=λt m=>by
  have K:=aK t m;rw[cO t Zo];simp only[aj]
  repeat rw[av Zo]
  exact cP t m
 simp only[af,aI,reduceCtorEq,aV,aP,ba,List.getD_cons_zero,List.getD_cons_succ,bH,bV,dP,dz]at dY c' da db d' dW dX;clear b' cO;simp only[db,cT,go_sem];refine bq 45 i.cap.length (λj=>kq 146 fc [] [(0,.rf 21 h 0),(1,I G),(4,.rf 4 (bs 4) 0),(5,dJ (dE,i,gP)),(6,.rf 6 (bv 6) 0),(43,cT i.cap),(44,I i.cap.length)] λU u=>(∃bB bD bI bL bM,u 4=E ⟨bs 4,125,5,[bB,bD,bI,bL,bM],aa⟩)/\u 6=E ⟨bv 6,87,3,[I aQ,S aS,.sl 3 (O.ae aR)],aa⟩/\(∀t∈a_,u t=H0 t)/\
  ∃ar:aX,ar.length=(bY i.l (i.cap.take j)).length/\(ids ar).Nodup/\(∀a∈ids ar,∀b∈i.cap,a≠b.id)/\(∀a∈ids ar,a∉ids s)/\(∀a∈ar,dp a.e.t)/\aH [39,80,84] u 217 1 (aq Bi.d (s++eu i.l (i.cap.take j) ar)) (U 7)/\(s++eu i.l (i.cap.take j) ar=[]->U 7=a')/\aH [72] u 217 1 (aq Bi.d (bY i.l (i.cap.take j))) (U 8)/\aH [76] u 217 1 (aq Bi.d ar) (U 9)) A
  ⟨A,A,A,by simp[af,dY,c',da,db,d',dJ,br,cT],⟨_,_,_,_,_,dW⟩,dX,fa,[],A,by simp[ids],by simp[ids],by simp[ids],Zs,by simpa[af,eu]using c2.sub Zs,(λF=>by simp only[af];exact gs (by simp[eu]at F;rw[F];rfl)),by simpa[af,bY,aq]using .inl ⟨A,A⟩,by simpa[af,aq]using .inl ⟨A,A⟩⟩ ?_
 clear dY c' da db d' dW dX fa c2;rintro j U u cj ec fd cc⟨rfl,rfl,⟨bB,bD,bI,bL,bM,be⟩,bh,a4,ar,bl,dd,df,dg,cH,bk,c3,bo,ce⟩;obtain⟨hE,a0⟩:=Zx (U 7);obtain⟨e',b1⟩:=Zx (U 8);obtain⟨e_,bd⟩:=Zx (U 9);rw[a0]at bk c3;rw[b1]at bo;rw[bd]at ce;simp only[go_sem];refine aT (λp=>?_) λp=>?_
 .have aE:j<i.cap.length:=by simpa using p
  have eh:=hX (f:=Bi.d) aE;obtain⟨cJ,cL,cK,fD,cQ⟩:=Bi.T4 i.cap[j];have ex:=Dq i i.cap[j] R.l0 (by obtain⟨aU,e9,d_,-,-,-,-,p,-⟩:=R.cx;simp only at p;omega);have fE:=Bi.cl i.cap[j];have fL:=Nd.cl i;have cd:i.cap.take (j+1)=i.cap.take j++[i.cap[j]]:=ch aE;rw[cQ]at eh fE;rw[cQ,br]at ex;rw[br]at fL;simp only[p,eh,dJ,br,cT,go_sem];refine bO ex ?_;refine aT (λa9=>?_) λa9=>?_
  .have a9:i.cap[j].e.l=i.l+1:=by simpa using a9
   simp only[go_sem];refine cX [] [] ?_;simp only[go_sem];refine GK.ptr 12 68 (cj 68) ⟨cj 68,236,5,[S i.cap[j].e.n,I cJ,S cL,.sl 3 (O.ae cK),I i.cap[j].e.l],aa⟩ iN bJ A A Zs cu λbc gb=>?_;obtain⟨eJ,eK,-⟩:=gb;have gc:∀b∈i.cap,bc≠b.id:=λb C F=>eJ 43 (by
    simp only[af,aV,aP,bT,bU,aI,reduceCtorEq];exact .sl (d:=b.d) (r:=[b.d]) (aG.2 ⟨b,C,A⟩) Zs (by rw[F];obtain⟨_,_,_,_,p⟩:=Bi.r9 b;rw[p];exact .here _))
   have du:∀{S:aD}{l:aX}{v:D},aH S u 217 1 (aq Bi.d l) v->68∉S->∀b∈l,bc≠b.id:=λ{S l v}fU fw b C F=>by
    rcases fU with⟨b7,-⟩|⟨t,g,m,-,gd⟩
    .have:l=[]:=by have:=dO List.length b7;simpa[aq]using this
     rw[this]at C;cases C
    .have ep:t≠68:=λj=>fw (j▸m);refine eK t _ (by simp only[aj];rw[av ep,av ep];exact gd) b.d (by rw[iq];exact aG.2 ⟨b,C,A⟩) ?_;rw[F];obtain⟨_,_,_,_,p⟩:=Bi.r9 b;rw[p];exact .here _
   have ga:bc∉ids ar:=λp=>by obtain⟨b,C,F⟩:=aG.1 p;exact du ce Zd b C F.symm
   have f_:bc∉ids s:=λp=>by obtain⟨b,C,F⟩:=aG.1 p;exact du bk Zd b (eE _ C) F.symm
   clear eJ eK du
   let aL:Bi:=⟨bc,⟨i.cap[j].e.n,.mk cJ cL cK,i.cap[j].e.l⟩⟩
   have eL:aL.d=.pa bc [S i.cap[j].e.n,I cJ,S cL,.sl 3 (O.ae cK),I i.cap[j].e.l]:=A;have hq:(bY i.l (i.cap.take j)).length<=1000000:=by
    have:=nl (λb:Bi=>decide (b.e.l=i.l+1)) (i.cap.take j);unfold bY;rw[fP]at this;omega
   have c1:=sr (L:=i.l) (i.cap.take j) ar;rw[fP]at c1;simp only[b1,go_sem];refine GK.intro (mI (S:=[72]) (f:=Bi.d) (l:=bY i.l (i.cap.take j)) (a:=i.cap[j]) jL (by simp only[af,aI,aV,aP,bT,bU,reduceCtorEq];exact bo.congr (by simp[aj,aN])) (by simp[af,cF,aj,cQ]) (Bi.one _) Zo Zd ?_);intro cv gL c9 bn a6;simp only[bd,go_sem];refine GK.intro (mI (S:=[76]) (f:=Bi.d) (l:=ar) (a:=aL) jL (by simp only[af,aI,aV,aP,bT,bU,reduceCtorEq];exact ce.congr (by have:=a6 76 Zd Zd;simp[aj,aN]at this⊢;exact this)) (by simp[af,cF,aj,eL]) (Bi.one _) Zo Zd ?_);intro ea hy hI gt eq;simp only[a0,go_sem];have cV:∀t,t≠76->t≠75->t≠72->t≠71->t≠68->ea t=u t:=λt bb bN bS cz ff=>by
    rw[eq t bb (by simpa using bb)];simp only[bV _ _ bN];rw[a6 t bS (by simpa using bS)];simp[aj,aN,cz,ff]
   refine GK.intro (mI (S:=[39,80,84]) (f:=Bi.d) (l:=s++eu i.l (i.cap.take j) ar) (a:=aL) jL (by simp only[af,aI,aV,aP,bT,bU,reduceCtorEq];exact bk.congr (by simp[aj,cV])) (by simp[af,cF,aj,eL]) (Bi.one _) (by rw[bF];omega) Zd ?_);intro dc gM gY dD dn;have a5:∀t,t≠80->t≠79->t≠39->t≠84->dc t=ea t:=λt bb bN bS cz=>by
    rw[dn t bb (by simp[bb,bS,cz])];simp only[bV _ _ bN]
   simp only[go_sem];refine bg aE ⟨A,A,A,by simp[af,dJ,br,cT],⟨bB,bD,bI,bL,bM,(a5 4 Zd Zd Zd Zd).trans ((cV 4 Zd Zd Zd Zd Zd).trans be)⟩,(a5 6 Zd Zd Zd Zd).trans ((cV 6 Zd Zd Zd Zd Zd).trans bh),λt m=>by have K:=aK t m;exact(a5 t Zo Zo Zo Zo).trans ((cV t Zo Zo Zo Zo Zo).trans (a4 t m)),ar++[aL],?_,?_,?_,?_,?_,?_,(λF=>by exfalso;have:=dO List.length F;simp only[bF,sr,fP,gG]at this;omega),?_,?_⟩
   .rw[cd,Ca,aM a9];simp[bl]
   .rw[show ids (ar++[aL])=ids ar++[bc]by simp[ids,aL],gR];exact⟨dd,Zs,λa B b C=>by simp at C;subst C;exact λF=>ga (F▸B)⟩
   .intro a B;rw[show ids (ar++[aL])=ids ar++[bc]by simp[ids,aL]]at B;rcases cg.1 B with B|B
    .exact df a B
    .simp at B;subst B;exact gc
   .intro a B;rw[show ids (ar++[aL])=ids ar++[bc]by simp[ids,aL]]at B;rcases cg.1 B with B|B
    .exact dg a B
    .simp at B;subst B;exact f_
   .intro a B;rcases cg.1 B with B|B
    .exact cH a B
    .simp at B;subst B;show dp (.mk cJ cL cK);rw[<-fD];obtain⟨aU,e9,d_,-,-,K,M,-⟩:=R.cx;exact oS _ (K _ (eE _ (M _ (ax aE)))).1
   .rw[cd,Bb _ _ _ bl,<-dM];have:eu i.l [i.cap[j]] [aL]=[aL]:=by simp[eu,a9]
    rw[this];simpa[af]using dD.sub Zs
   .rw[cd,Ca,aM a9];simpa[af]using bn.congr (by simp[a5,eq,aj])
   .simpa[af]using gt.congr (by simp[a5])
  .have a9:i.cap[j].e.l≠i.l+1:=by simpa using a9
   have c1:=sr (L:=i.l) (i.cap.take j) ar;rw[fP]at c1;have ez:bY i.l (i.cap.take j++[i.cap[j]])=bY i.l (i.cap.take j):=by rw[Ca,av a9,c_]
   simp only[a0,go_sem];refine GK.intro (mI (S:=[39,80,84]) (f:=Bi.d) (l:=s++eu i.l (i.cap.take j) ar) (a:=i.cap[j]) jL (by simp only[af,aI,aV,aP,bT,bU,reduceCtorEq];exact bk.congr bJ) (by simp[af,cF,aj,cQ]) (Bi.one _) (by rw[bF];omega) Zd ?_);intro dc gM gY dD dn;have a5:∀t,t≠84->t≠83->t≠39->t≠80->dc t=u t:=λt bb bN bS cz=>by
    rw[dn t bb (by simp[bb,bS,cz])];simp only[bV _ _ bN]
   simp only[go_sem];refine bg aE ⟨A,A,A,by simp[af,dJ,br,cT],⟨bB,bD,bI,bL,bM,(a5 4 Zd Zd Zd Zd).trans be⟩,(a5 6 Zd Zd Zd Zd).trans bh,λt m=>by have K:=aK t m;exact(a5 t Zo Zo Zo Zo).trans (a4 t m),ar,?_,dd,df,dg,cH,?_,(λF=>by exfalso;have:=dO List.length F;simp only[bF,sr,fP,gG]at this;omega),?_,?_⟩
   .rw[cd,ez];exact bl
   .rw[cd];have K:=Bb (L:=i.l) (b:=i.cap[j]) (i.cap.take j) ar [] bl;rw[c_]at K;have:eu i.l [i.cap[j]] []=[i.cap[j]]:=by simp[eu,a9]
    rw[K,this,<-dM];simpa[af]using dD.sub Zs
   .rw[cd,ez];simpa[af,b1]using bo.congr (by simp[a5])
   .simpa[af,bd]using ce.congr (by simp[a5])
 .have cZ:j=i.cap.length:=by simp at p;omega
  subst cZ;rw[b9]at bl bk c3 bo;have c1:=sr (L:=i.l) i.cap ar;simp only[p,a0,go_sem];refine .inr (.inr (Pe bk c3 Zd Zd (by rw[bF];omega) λcv gL c9 bn a6=>?_));simp only[go_sem];have hl:(bY i.l i.cap).length<=1000000:=by have:=nl (λb:Bi=>decide (b.e.l=i.l+1)) i.cap;unfold bY;omega
  have hm:(bY i.l i.cap).length<=i.cap.length:=by unfold bY;exact nl _ _
  refine AA (d:=I ((bY i.l i.cap).length:Nat)) ?_ ?_
  .rw[b1,<-dC Bi.d (bY i.l i.cap)];rcases bo with⟨dk,rfl⟩|⟨t,hj,-,rfl,-⟩
   .rw[dk];rfl
   .rfl
  have a1:=(a6 4 Zd Zd).trans be;have ab:=(a6 6 Zd Zd).trans bh;have a3:∀t∈a_,cv t=H0 t:=λt m=>by have K:=aK t m;exact(a6 t Zo Zo).trans (a4 t m)
  have ei:=bk.congr (H':=cv) (by simp[a6]);have en:=bo.congr (H':=cv) (by simp[a6]);have eo:=ce.congr (H':=cv) (by simp[a6]);simp only[go_sem];refine hC 90 (bY i.l i.cap).length (λj=>kq 146 fd [] [(0,.rf 21 h 0),(1,I G),(4,.rf 4 (bs 4) 0),(6,.rf 6 (bv 6) 0),(9,e_),(13,c9),(88,e'),(89,I (bY i.l i.cap).length)] λU u=>u 4=E ⟨bs 4,125,5,[bB,bD,bI,bL,bM],aa⟩/\u 6=E ⟨bv 6,87,3,[I aQ,S aS,.sl 3 (O.ae aR)],aa⟩/\(∀t∈a_,u t=H0 t)/\
   aH [72] u 217 1 (aq Bi.d (bY i.l i.cap)) e'/\aH [76] u 217 1 (aq Bi.d ar) e_/\aH [7] u 217 1 (aq Bi.d (s++eu i.l i.cap ar)) c9/\aH [39,80,84,107] u 217 1 (aq Bi.d (s++eu i.l i.cap ar++(bY i.l i.cap).take j)) (U 7)/\
   ∃q:List bQ,aH [103] u 125 5 (q.map aW) (U 14)/\q.map bQ.c=(List.range j).map (λy=>dw (gf (ids (s++eu i.l i.cap ar++(bY i.l i.cap).take y)) ((ids ar).getD y 0):Nat))/\∀t∈q,t.ty≠[]/\t.ty.length<=1) A
   ⟨A,A,A,by simp[af,bd,b1],a1,ab,a3,en,eo,bn,by simpa[af,a0]using ei.sub Zs,[],by simpa[af]using .inl ⟨A,A⟩,A,Zs⟩ ?_
  clear a1 ab a3 ei en eo bk c3 bo ce a6 be bh a4 a0 b1 bd bn;rintro j⟨U,u,e8,gN,ec,fe⟩cc cN⟨rfl,rfl,rfl,eH,be,bh,a4,dI,dK,c5,ci,q,c4,c6,e6⟩;simp only[a7]at cN eH be bh a4 dI dK c5 ci c4;obtain⟨ee,cM,bZ,bm,bd,bX,ef,eg,-⟩:=eH;obtain⟨hG,a0⟩:=Zx (U 7);obtain⟨hF,dh⟩:=Zx (U 14);rw[a0]at ci;rw[dh]at c4;have dB:q.length=j:=by have:=dO List.length c6;simpa using this
  have fs:cy aB 121=E (125,5,88):=Zk;simp only[cN,eg,go_sem];refine aT (λp=>?_) λp=>?_
  .have aE:j<(bY i.l i.cap).length:=by simpa using p
   have cb:j<ar.length:=Zo;obtain⟨hh,rfl,gH⟩:=fG dI (by intro ct;have:=dO List.length ct;simp[aq]at this;rw[this]at aE;simp at aE);obtain⟨hi,rfl,gI⟩:=fG dK (by intro ct;have:=dO List.length ct;simp[aq]at this;rw[this]at cb;simp at cb);have fg:(aq Bi.d (bY i.l i.cap)).flatten[j]?=E (Bi.d (bY i.l i.cap)[j]):=by rw[iq];simp[aE]
   have fh:(aq Bi.d ar).flatten[j]?=E (Bi.d ar[j]):=by rw[iq];simp[cb]
   have dQ:=dC Bi.d (bY i.l i.cap);have e7:=dC Bi.d ar;have gB:((j:Int)<((bY i.l i.cap).length:Int))=True:=bP Zo;have gC:((j:Int)<(ar.length:Int))=True:=bP Zo;have dE:((0:Int)<=(j:Int))=True:=bP Zo;have he:(aq Bi.d (bY i.l i.cap)).flatten.length=(bY i.l i.cap).length:=by rw[iq,bW]
   have hf:(aq Bi.d ar).flatten.length=ar.length:=by rw[iq,bW]
   simp only[cN,a0,bd,dh,ef,gH,gI,dQ,gB,gC,dE,fg,fh,List.head?_drop,lc,go_sem];have et:(s++eu i.l i.cap ar++(bY i.l i.cap).take j).length<=2002000:=by rw[bF,bF,fP];omega
   have e4:=ci;rcases ci with⟨dk,-⟩|⟨t7,b3,gl,rfl,gE⟩
   .exfalso;have b7:=dO List.length dk;simp only[dC,bF,sr,gG]at b7;have:=nl (λb:Bi=>decide (b.e.l=i.l+1)) i.cap;unfold bY at aE;omega
   have fC:ar[j].id∈ids (s++eu i.l i.cap ar++(bY i.l i.cap).take j):=aG.2 ⟨_,eE _ (eN _ (EQ _ _ bl _ (ax cb))),A⟩;have gq:=Xd (s++eu i.l i.cap ar++(bY i.l i.cap).take j) ar[j] fC (by rw[bF,bF,fP];omega) (cH _ (ax cb)) (H0:=u) (t:=t7) (g:=b3) (by rintro rfl;simp at gl) gE A;refine .inr (.inr (gq _ _ _ Zs λhz gT dx gj=>?_));subst dx;generalize gr:gf (ids (s++eu i.l i.cap ar++(bY i.l i.cap).take j)) ar[j].id=dV at*;generalize cf ar[j].e.t=cE at*;simp only[aW,dw,go_sem];refine GK.intro (dS.eF (S:=[103]) (rows:=q.map aW) (bx:=[aW ⟨dw (dV:Nat),[cE]⟩]) fs (by simp only[af,aI,aV,aP,bT,bU,reduceCtorEq];exact c4.congr bJ) (nf _) (by simp[af,cF,aj,aW,dw,Core.ds,ints]) Zs (by simpa using vM ⟨dw (dV:Nat),[cE]⟩) (by rw[bW,dB];show(j+1)*88<=_;omega) (by rw[bW,dB];show j+1<=ao;unfold ao;omega) λg3 hA hJ gu er=>?_);obtain⟨c',hL,hM,da,ew⟩:=Bi.r9 (bY i.l i.cap)[j];simp only[a0,ew,go_sem];rw[dC]at e4;refine GK.intro (mI (S:=[39,80,84,107]) (f:=Bi.d) (l:=s++eu i.l i.cap ar++(bY i.l i.cap).take j) (a:=(bY i.l i.cap)[j]) jL (by simp only[af,bT,bU,aI,aV,reduceCtorEq,aP];exact e4.congr (by simp[aj,er])) (by simp[af,cF,aj,ew]) (Bi.one _) Zo Zd ?_);intro cw hB hK gv es;have ca:∀t,t≠107->t≠106->t≠39->t≠80->t≠84->t≠103->t≠102->cw t=u t:=λt d1 d2 d3 d4 d5 d6 d7=>by
    rw[es t d1 (by simp[d1,d3,d4,d5])];simp only[bV _ _ d2];rw[er t d6 (by simpa using d6)];simp only[bV _ _ d7]
   simp only[cN,go_sem];refine bg aE ⟨A,A,A,by simp[af,ee,cM,bZ,bm,bd,bX,ef,eg,dQ,e7],(ca 4 Zd Zd Zd Zd Zd Zd Zd).trans be,(ca 6 Zd Zd Zd Zd Zd Zd Zd).trans bh,λt m=>by have K:=aK t m;exact(ca t Zo Zo Zo Zo Zo Zo Zo).trans (a4 t m),(by have:=dI.congr (H':=cw) (by simp[ca]);rwa[dQ]at this),(by have:=dK.congr (H':=cw) (by simp[ca]);rwa[e7]at this),c5.congr (H':=cw) (by simp[ca]),?_,q++[⟨dw (dV:Nat),[cE]⟩],?_,?_,?_⟩
   .rw[ch aE,<-dM];simpa[af]using gv.sub Zs
   .simpa[af]using gu.congr (H':=cw) (by intro t m;simp only[bG]at m;subst m;rw[es 103 Zd Zs];simp[aj])
   .rw[bC,c6,wc,bC];simp only[bp,cB];have:(ids ar).getD j 0=ar[j].id:=by rw[sy];simp[ids,cb]
    rw[this,gr];rfl
   .intro t m;rcases cg.1 m with m|m
    .exact e6 t m
    .simp at m;subst m;simp
  .have cZ:j=(bY i.l i.cap).length:=by simp at p;omega
   subst cZ;rw[b9]at ci;simp only[p,go_sem];refine GK.ln [39,80,84,107] 7 (cT (s++eu i.l i.cap ar++bY i.l i.cap)) (by simp only[af,aV,aP,a0,bT,bU,aI,reduceCtorEq];exact kE (S:=[39,80,84,107]) (ci.congr (by simp[bi])) λQ _=>Bi.cl Q) (oH _) ?_;have gS:aN [39,80,84,107] u 21=_:=(by simp[aN]:aN [39,80,84,107] u 21=u 21).trans ((a4 21 ck).trans b8);have gQ:aN [39,80,84,107] u 137=_:=(by simp[aN]:aN [39,80,84,107] u 137=u 137).trans ((a4 137 dT).trans dl);simp only[ee,cM,gS,gQ,eT,eS,fK,List.head?_drop,lc,go_sem];obtain⟨o,dv,eP⟩:=Tz (r:=(Q,s,i)) (ar:=ids ar) dd df dg;have eZ:ids (eu i.l i.cap ar)=eM i.l o i.cap 0:=EP (o:=o) i.cap ar 0 bl (λgA fS=>by rw[ek,eP gA (by simpa[ids]using fS)];simp[ids]);have eI:ids (s++eu i.l i.cap ar++bY i.l i.cap)=ids s++(eM i.l o i.cap 0++ids (bY i.l i.cap)):=by rw[<-eZ];simp[ids]
   obtain⟨aU,e9,d_,e2,e3,dH,-,e5,gD⟩:=R.cx;have dq:=gD o dv.cap dv.Ji;simp only at dq e2 e3 dH e5;rw[<-eI]at dq;have gz:=R.n1;have fW:=R.le;simp only at gz fW;have fA:=eV (EE gh fM fI bj aU (vars:=s++eu i.l i.cap ar++bY i.l i.cap) (G+1) e2 e3 dq dH R.w (λf fO=>eY f (R.sub f fO)) R.l0 e5 Zo (by rw[bF,bF];omega) Zo) (by simp only[D.fV,D.gO (Nd.cl _),D.gO (oH _)];rfl);refine .inr (.inr (fA _ _ _ (λt m=>by have K:=aK t m;simp only[aN];rw[av de];exact a4 t m) λdR gT dx gj=>?_));obtain⟨⟨⟨fj,fp,fi,fk⟩,fo⟩,rfl,gm⟩:=dx;simp only[aW,go_sem];refine GK.ln [103] 14 (.sl 5 (q.map aW)) (by simp only[af,aV,aP,dh,bT,bU,aI,reduceCtorEq];exact aH.fz (S:=[103]) (c4.congr (by simp[bi,aN,aj])) Zd (nf _) (nc _)) (Cl.fH (nc q)) ?_;simp only[go_sem];refine hU (Oc q) (.c (Cl.fH (nc q)) .n) ?_;simp only[go_sem];obtain⟨z,dt⟩:=Zx (s++eu i.l i.cap ar);have et:z.length=s.length+i.cap.length:=by rw[<-dt,bF,sr]
   have fB:∀b∈z,dp b.e.t:=λb C=>by
    rw[<-dt]at C;rcases cg.1 C with C|C
    .exact oS _ (dH b (eN _ C)).1
    .rcases Nr _ _ b C with C|C
     .obtain⟨hb,hD,g2,-,-,c8,gV,-⟩:=R.cx;exact oS _ (c8 b (eE _ (gV b C))).1
     .exact cH b C
   have gn:∀y(p:y<q.length),∃dG v d dL cG,q[y]=⟨.mk dG v d dL,cG⟩/\cG≠[]/\cG.length<=1:=λy p=>by
    have:=e6 _ (ax p);rcases F:q[y]with⟨⟨dG,v,d,dL⟩,cG⟩
    rw[F]at this;exact⟨dG,v,d,dL,cG,A,this.1,this.2⟩
   have dB:q.length<=1000000:=by have:=dO List.length c6;simp at this;omega
   rw[dt]at c5;rw[e0]at c0;refine Ef (rows:=q.map aW) (el:=λbz=>.agg #[bz 0,bz 1,bz 2,bz 3,bz 4]) (eD:=.ag) [19,1000129] N' NQ A A (by rw[bW];unfold ao;omega) (nf q) Zk Zk
    (λy H' cj=>(∃t,H' 17=E ⟨dR 17,125,5,aW t,aa⟩/\fl (((q.drop (q.length-y)).map bQ.c).foldr (λa aU=>.mk 7 0 [] [a,aU]) (iW Z aY Q (ids (s++eu i.l i.cap ar++bY i.l i.cap)) (G+1))) (10000000*Q.num+3*y) t)/\H' 6=E ⟨bv 6,87,3,[I aQ,S aS,.sl 3 (O.ae aR)],aa⟩/\H' 4=E ⟨bs 4,125,5,[bB,bD,bI,bL,bM],aa⟩/\(∀t∈a_,H' t=H0 t)/\aH [7] H' 217 1 (aq Bi.d z) c9) ⟨⟨⟨.mk fj fp fi fk,fo⟩,by simp[aN,aj,aW,Core.ds,ints],by simpa using gm⟩,by simp[aN,aj,bh],by simp[aN,aj,be],λt m=>by have K:=aK t m;have M:t≠103/\t≠17/\t≠39/\t≠80/\t≠84/\t≠107:=Zo;simp[aN,aj,M,a4 t m],c5.congr (by simp[aN,aj])⟩ ?_ ?_
   .rintro y H' cj r cS eW⟨⟨⟨⟨am,au,ak,an⟩,ap⟩,aC,m⟩,ab,a1,a3,b3⟩;rw[bW]at cS eW;have cc:q.length-1-y<q.length:=Zo;obtain⟨cn,cr,cm,co,cq,eU,gi,cZ⟩:=gn _ cc;have fN:q.drop (q.length-(y+1))=⟨.mk cn cr cm co,cq⟩::q.drop (q.length-y):=by
     rw[show q.length-(y+1)=q.length-1-y by omega,ph cc,eU,show q.length-1-y+1=q.length-y by omega]
    obtain rfl:r=aW ⟨.mk cn cr cm co,cq⟩:=by simpa[cc,eU]using eW.symm
    have f':=made 7 0 [] (.mk aQ aS aR) [⟨.mk cn cr cm co,cq⟩,⟨.mk am au ak an,ap⟩] c0 (by simp;exact⟨gi,m.ne⟩) Zs (by simp;have:=m.len;simp at this;omega) (.inl A);have dr:fl (((q.drop (q.length-(y+1))).map bQ.c).foldr (λa aU=>.mk 7 0 [] [a,aU]) (iW Z aY Q (ids (s++eu i.l i.cap ar++bY i.l i.cap)) (G+1))) (10000000*Q.num+3*(y+1)) ⟨.mk 7 0 [] [.mk cn cr cm co,.mk am au ak an],cf (.mk aQ aS aR)::(cq++ap)⟩:=by
     refine⟨?_,Zs,?_,by simp;exact ig _ c0⟩
     .rw[fN];simp only[bp,List.foldr_cons];rw[<-m.c]
     .have:=m.len;simp at this⊢;omega
    generalize cf (.mk aQ aS aR)=cE at*;simp only[aW,Core.ds,bf,a8]at aC⊢;simp only[aC,ab,bm,go_sem];refine fm [127] f' (.c Fz.tk (.c (.cl _ (Cl.bu (O.cl (.mk aQ aS aR)))) (.c (Fz.az (g:=cj 127) (kids:=[⟨.mk cn cr cm co,cq⟩,⟨.mk am au ak an,ap⟩]) (by simp[bi,aj,aW,Core.ds,ints]) A) .n))) (Cl.bu (dF _)) ?_;simp only[aN,aW,dN,fX,ab,aC,go_sem];refine⟨⟨⟨.mk 7 0 [] [.mk cn cr cm co,.mk am au ak an],cE::(cq++ap)⟩,A,dr⟩,a1,λt m=>by have K:=aK t m;have M:t≠127/\t≠19/\t≠17:=Zo;simp[M,a3 t m],b3.congr (by simp[aN,aj])⟩
   .rintro H' cj⟨⟨⟨⟨am,au,ak,an⟩,ap⟩,aC,m⟩,ab,a1,a3,b3⟩;have c8:∀j:Nat,j<=2000000->IntKind.i64.wrap ((j:Int)-1)=(j:Int)-1:=λj p=>cW _ Zo;have gW:=c8 z.length Zo;rw[bW,uj,List.drop_zero]at m;simp only[aW,Core.ds,bf,a8]at aC;simp only[go_sem];refine GK.ln [7] 13 (cT z) (by simp only[af,aV,aP,bX,bT,bU,aI,reduceCtorEq];exact kE (S:=[7]) (b3.congr (by simp[bi])) λQ _=>Bi.cl Q) (oH _) ?_;simp only[cT,gW,go_sem];refine mW (λX=>X.nt=146/\X.N=fe/\X.T=[]/\X.env 13=cT z/\X.env 6=.rf 6 (bv 6) 0/\X.env 17=.rf 17 (dR 17) 0/\X.env 4=.rf 4 (bs 4) 0/\X.H 6=E ⟨bv 6,87,3,[I aQ,S aS,.sl 3 (O.ae aR)],aa⟩/\X.H 4=E ⟨bs 4,125,5,[bB,bD,bI,bL,bM],aa⟩/\(∀t∈a_,X.H t=H0 t)/\
     ∃j:Nat,j<=z.length/\X.env 20=I ((j:Int)-1)/\∃t,X.H 17=E ⟨dR 17,125,5,aW t,aa⟩/\fl (lO (z.length-j) ((q.map bQ.c).foldr (λa aU=>.mk 7 0 [] [a,aU]) (iW Z aY Q (ids (s++eu i.l i.cap ar++bY i.l i.cap)) (G+1)))) (10000000*Q.num+3*q.length+3*(z.length-j)) t) (λX=>match X.env 20 with|.sc (.int _ gJ)=>(gJ+1).toNat|_=>0)
     ⟨A,A,A,by simp[af],by simp[af,bm],by simp[af],by simp[af,bZ],by simp[aN,ab],by simp[aN,a1],λt m=>by have K:=aK t m;have M:t≠7:=Zo;simp[aN,M,a3 t m],z.length,b_ _,by simp[af],⟨.mk am au ak an,ap⟩,by simp[aN,aC,aW,Core.ds],by simpa[lO]using m⟩ ?_
    clear ab a1 a3 b3 aC m;rintro⟨U,u,e8,gN,ec,g5⟩⟨rfl,rfl,rfl,bX,bm,cA,bZ,ab,a1,a3,j,cc,cC,⟨⟨am,au,ak,an⟩,ap⟩,aC,m⟩;simp only at bX bm cA bZ ab a1 a3 cC;simp only[aW,Core.ds,bf,a8]at aC;simp only[cC,go_sem];refine aT (λp=>?_) λp=>?_
    .have b7:0<j:=by simp at p;omega
     obtain⟨P,rfl⟩:∃G,j=G+1:=⟨j-1,Zo⟩;have eQ:((P+1:Nat):Int)-1=(P:Int):=Zo;have gU:=c8 P Zo;rw[eQ]at cC;have gk:(aq Bi.d z).drop P=aq Bi.d (z.drop P):=vC _ _;have go:(aq Bi.d z).take z.length=aq Bi.d z:=cU Zs;have f1:((P:Int)<=(z.length:Int))=True:=bP Zo;have f0:((0:Int)<=(P:Int))=True:=bP Zo;have eC:=CT (z.drop P) i.ty (by rw[List.length_drop];omega);rw[e0]at eC;have eG:=sY (l:=(z.drop P).map λb=>b.e.t) (λQ gy=>by obtain⟨b,C,rfl⟩:=aG.1 gy;exact fB b (ra C)) c0;have fZ:=made 4 0 [] (gK ((z.drop P).map λb=>b.e.t) (.mk aQ aS aR)) [⟨.mk am au ak an,ap⟩] eG (by simp;exact m.ne) Zs (by simp;have:=m.len;simp at this;omega) (.inl A);have dr:fl (lO (z.length-P) ((q.map bQ.c).foldr (λa aU=>.mk 7 0 [] [a,aU]) (iW Z aY Q (ids (s++eu i.l i.cap ar++bY i.l i.cap)) (G+1)))) (10000000*Q.num+3*q.length+3*(z.length-P)) ⟨.mk 4 0 [] [.mk am au ak an],cf (gK ((z.drop P).map λb=>b.e.t) (.mk aQ aS aR))::ap⟩:=by
      refine⟨?_,Zs,?_,λct e1=>by simp only[List.head?_cons,Option.mem_def,dy]at e1;subst e1;exact ig _ eG⟩
      .rw[show z.length-P=(z.length-(P+1))+1 by omega,lO,<-m.c]
      .have:=m.len;simp at this⊢;omega
     simp only[go_sem];refine me (.bE [0,1,2,3,4,6] 5 (.fin [7,8,9]) 7 (.fin [5,8,9])) [6,17] [] ?_;simp only[bX,cC,bm,cA,ab,aC,cT,f0,f1,eQ,gk,go,go_sem];refine⟨?_,?_⟩
     all_goals
      refine bw eC ?_;generalize cf (gK ((z.drop P).map λb=>b.e.t) (.mk aQ aS aR))=fr at*;generalize gK ((z.drop P).map λb=>b.e.t) (.mk aQ aS aR)=hg at*;simp only[go_sem];refine fm [143] fZ (.c Fz.tk (.c (.cl _ (Cl.bu (O.cl _))) (.c (Fz.az (g:=e8 143) (kids:=[⟨.mk am au ak an,ap⟩]) (by simp[bi,aj,aW,Core.ds,ints]) A) .n))) (Cl.bu (dF _)) ?_;simp only[cC,cA,ab,aC,aN,aW,dN,fX,gU,go_sem];unfold Am;refine⟨⟨A,A,A,by simp[af,bX,cT],by simp[af,bm],by simp[af,cA],by simp[af,bZ],by simp[aN,aj,ab],by simp[aN,aj,a1],λt m=>by have K:=aK t m;have M:t≠143/\t≠17:=Zo;simp[aN,aj,M,a3 t m],P,Zo,by simp[af],⟨.mk 4 0 [] [.mk am au ak an],fr::ap⟩,by simp[aj,Core.ds,ints],dr⟩,by simp[af]⟩
    .have b7:j=0:=by simp at p;omega
     subst b7;simp only[cA,bZ,aC,a1,aW,go_sem];refine⟨Cl.bu (dF ⟨.mk am au ak an,ap⟩),⟨⟨.mk am au ak an,ap⟩,A,?_,m.ne,?_,m.fn⟩,λt m=>by have K:=aK t m;have M:t≠4:=Zo;simp[M,a3 t m]⟩
     .rw[m.c,R.any ge dv,Nat.sub_zero,et,c6,eI];unfold lK;rw[S2,dZ];refine dO (lO _) (dO (List.foldr _ _) (gX λy cS=>?_));have cS:y<(bY i.l i.cap).length:=by simpa using cS
      have M:y<(ids ar).length:=by simp[ids];omega
      have cM:ids (s++eu i.l i.cap ar++(bY i.l i.cap).take y)=ids s++eM i.l o i.cap 0++(ids (bY i.l i.cap)).take y:=by rw[<-eZ];simp[ids,kK]
      have fq:(ids ar).getD y 0=o y:=by rw[eP y M,sy,bR M];rfl
      rw[cM,fq];rfl
     .have K:=m.len;have M:=R.n1;simp only at K M⊢;have hk:10000000*Q.num<=10000000000:=Zo;omega
def B'{k:Int}{l:aD}{m i:Nat}(a:i<l.length):cj k l m (i+1)=cj k l m i+(e8 k i+l[i]):=by
 have b:i<(gu k l).length:=by simpa[gu]using a
 unfold cj;rw[ch b,sB];simp[gu];omega
def Ik{k:Int}{l:aD}{m i:Nat}:∀{j:Nat},i<=j->j<=l.length->cj k l m i<=cj k l m j
 |0,b,_=>by have:i=0:=Zo
            subst this;exact b_ _
 |j+1,b,d=>by
  by_cases a:i=j+1
  .subst a;exact b_ _
  .have:=Ik (k:=k) (m:=m) (show i<=j by omega) (show j<=l.length by omega);rw[B' (show j<l.length by omega)];omega
def OF{x:Nd}{m:Nat}:cj (Y.kd x.t) (x.ks.map Nd.aZ) m x.ks.length=m+x.aZ:=by
 rw[Nd.l_];unfold cj;rw[cU (by simp[gu])]
def Jg:∀(x:Nd)(m:Nat),(∀b∈x.eR m,∀a∈b.2,m<=a/\a<m+x.aZ)/\(x.eR m).Pairwise (λb g=>∀a∈b.2,a∉g.2):=λx m=>by
 have O:∀q∈x.ks,∀m,(∀b∈q.eR m,∀a∈b.2,m<=a/\a<m+q.aZ)/\(q.eR m).Pairwise (λb g=>∀a∈b.2,a∉g.2):=λq J m=>Jg q m;have U:(x.ks.map Nd.aZ).length=x.ks.length:=bW _;have o:=λ{i j:Nat}=>Ik (k:=Y.kd x.t) (l:=x.ks.map Nd.aZ) (m:=m) (i:=i) (j:=j);have W:cj (Y.kd x.t) (x.ks.map Nd.aZ) m 0=m:=by simp[cj]
 have Q:∀f,f<=x.ks.length->(∀b∈jy x m f,∀a∈b.2,∃i<f,cj (Y.kd x.t) (x.ks.map Nd.aZ) m i+e8 (Y.kd x.t) i<=a/\a<cj (Y.kd x.t) (x.ks.map Nd.aZ) m (i+1))/\(jy x m f).Pairwise (λb g=>∀a∈b.2,a∉g.2):=by
  intro f
  induction f with
  |zero=>intro _;rw[zl];exact⟨Zs,.nil⟩
  |succ f P=>
   intro V;obtain⟨p,r⟩:=P Zo;obtain⟨z,F⟩:=O _ (ax (show f<x.ks.length by omega)) (cj (Y.kd x.t) (x.ks.map Nd.aZ) m f+e8 (Y.kd x.t) f);have I:=B' (k:=Y.kd x.t) (l:=x.ks.map Nd.aZ) (m:=m) (i:=f) Zo;rw[eI]at I;rw[wY Zo];refine⟨λb d a e=>?_,List.pairwise_append.2 ⟨r,F,λb d g w a e y=>?_⟩⟩
   .rcases cg.1 d with d|d
    .obtain⟨i,s,h⟩:=p b d a e;exact⟨i,Zo,h⟩
    .have:=z b d a e;exact⟨f,Zo,this.1,Zo⟩
   .obtain⟨i,s,B,C⟩:=p b d a e;have:=z g w a y;have:=o (i:=i+1) (j:=f) Zo Zo;omega
 obtain⟨p,r⟩:=Q _ (b_ _);rw[oR];have R:=OF (x:=x) (m:=m);have D:∀b∈jy x m x.ks.length,∀a∈b.2,m<=a/\a<m+x.aZ:=λb d a e=>by
  obtain⟨i,s,B,C⟩:=p b d a e;have:=o (i:=0) (j:=i) Zo Zo;have:=o (i:=i+1) (j:=x.ks.length) Zo Zo;omega
 by_cases u:Y.kd x.t=9\/Y.kd x.t=11
 .rw[aM u];have own:∀a∈(List.range' 1 (x.ks.length-1)).map (cj (Y.kd x.t) (x.ks.map Nd.aZ) m),∃i,1<=i/\i<x.ks.length/\a=cj (Y.kd x.t) (x.ks.map Nd.aZ) m i/\a+1<=cj (Y.kd x.t) (x.ks.map Nd.aZ) m (i+1):=λa e=>by
   obtain⟨i,s,rfl⟩:=aG.1 e;have G:=List.mem_range'_1.1 s;refine⟨i,G.1,Zo,A,?_⟩;rw[B' Zo];have:e8 (Y.kd x.t) i=1:=by unfold e8;rw[aM ⟨u,Zo⟩]
   omega
  refine⟨λb d a e=>?_,pj.2 ⟨λg w a e y=>?_,r⟩⟩
  .rcases cJ.1 d with rfl|d
   .obtain⟨i,K,L,rfl,M⟩:=own a e;have:=o (i:=0) (j:=i) Zo Zo;have:=o (i:=i+1) (j:=x.ks.length) Zo Zo;omega
   .exact D b d a e
  .obtain⟨i,K,L,rfl,M⟩:=own a e;obtain⟨j,S,B,C⟩:=p g w _ y;rcases Nat.lt_trichotomy i j with h|h|h
   .have:=o (i:=i+1) (j:=j) Zo Zo;omega
   .subst h;have:e8 (Y.kd x.t) i=1:=by unfold e8;rw[aM ⟨u,Zo⟩]
    omega
   .have:=o (i:=j+1) (j:=i) Zo Zo;omega
 .rw[av u,a8];exact⟨D,r⟩
termination_by x=>SizeOf.sizeOf x
decreasing_by exact Nd.lt J
def HR:∀(f:dv)(d:Nat),(∀b∈iD f d,∀a∈b.2,d<=a/\a<d+(eQ f).length)/\(iD f d).Pairwise (λb h=>∀a∈b.2,a∉h.2)
 |[],d=>⟨by simp[iD],.nil⟩
 |x::f,d=>by
  obtain⟨i,k⟩:=Jg x d;obtain⟨j,l⟩:=HR f (d+x.aZ);have p:(eQ (x::f)).length=x.aZ+(eQ f).length:=by rw[oC,oC,bp,ia]
  rw[iD];refine⟨λb e a g=>?_,List.pairwise_append.2 ⟨k,l,λb e h m a g o=>?_⟩⟩
  .rcases cg.1 e with e|e
   .have:=i b e a g;omega
   .have:=j b e a g;omega
  .have:=i b e a g;have:=j h m a o;omega
def gS(ab:List ai)(ds:List ah):List Y->Nat->List (Core×List Core)
 |[],_=>[]
 |t::ts,m=>cw ab ds t [] 0 m::gS ab ds ts (m+Y.aZ t)
def dA(ab:aw)(ds:aF):bM:=(gS ab ds (ds.map ah.bd) 0).map Prod.fst++((gS ab ds (ds.map ah.bd) 0).map Prod.snd).flatten
structure Mn (ab:List ai) (ds:List ah) (t:Y) (nd:Nd):Prop where
 kd:Y.kd t≠10
 cx:Cx ab ds t nd [] 0
 w:nw nd
 n1:t.num<=1000
 n2:nd.num<=640
variable {a4:aw}{a5:aF}{pi:Y}{m7:Nd}
def Mn.rl(e:Mn a4 a5 pi m7):Rl pi [] 0 [] [] 0:=⟨λb _ d a=>by simp[cE]at a,λb _ _=>A⟩
def Ih{ab:aw}{ds:aF}(J:fR ab ds):∀(g:a_)(d:dv)(a:Nat),d.length=g.length->(∀j(s:j<g.length)(C:j<d.length),Mn ab ds g[j] d[j])->
 (gS ab ds g a).length=d.length/\(∀j(s:j<d.length),((gS ab ds g a)[j]?).map Prod.fst=E (iW ab ds d[j] [] (a+(eQ (d.take j)).length)))/\
 ((gS ab ds g a).map Prod.snd).flatten.length=(eQ d).length/\
 ∀e r,(eQ d)[e]?=E r->∃b∈d,∃o,Good ab ds b o r (a+e)/\(∀p∈b.eR o,p∈iD d a)/\o+b.aZ<=a+(eQ d).length/\∃q,rp r q/\((gS ab ds g a).map Prod.snd).flatten[e]?=E (lK ab ds r q (a+e+1))
 |[],d,a,k,_=>by
  have:d=[]:=by simpa using k
  subst this;simp[gS,eQ]
 |t::g,[],a,k,_=>by simp at k
 |t::g,b::d,a,k,D=>by
  have f:=D 0 Zs Zs;simp only[fO]at f;obtain⟨M,O,P,Q⟩:=Ih J g d (a+Y.aZ t) (by simpa using k) λj s C=>by have:=D (j+1) (by simpa using s) (by simpa using C);simpa using this
  have G:=B8 t f.cx.is;have F:eQ (b::d)=b.ep++eQ d:=by simp[eQ]
  have x:∀l:dv,(eQ (b::l)).length=b.aZ+(eQ l).length:=λl=>by rw[oC,oC,bp,ia]
  obtain⟨ah,K⟩:=ED (ab:=ab) (ds:=ds) (λai m=>oE (b.ids++(((b.ep[ai-a]?).map λr=>ids r.2.1++ids r.2.2.cap).getD [])) m) (λ_ _ _=>yG) t a f.kd f.cx f.rl λj m=>⟨λy=>pw (eE _ y),by simp[ids]⟩;have ae:∀e,((cw ab ds t [] 0 a).2)[e]?=(b.ep[e]?).map λr=>lK ab ds r (λm=>oE (b.ids++(((b.ep[e]?).map λr=>ids r.2.1++ids r.2.2.cap).getD [])) m) (a+e+1):=λe=>by
   rw[<-K];unfold oG;rw[gF,List.getElem?_zipIdx];have R:a+e-a=e:=Zo;rcases i:b.ep[e]? with _|r
   .rfl
   .simp only[ey,R,i]
  have I:(cw ab ds t [] 0 a).2.length=b.ep.length:=by rw[<-K];simp[oG]
  have an:=vA b;rw[gS];refine⟨by simp[M],λj W=>?_,by rw[bp,dN,bF,P,I,F,bF],λe r h=>?_⟩
  .cases j with
   |zero=>simp[ah,eQ]
   |succ j=>
    have:=O j (by simpa using W);rw[v8,i1,ix,x,this,G,re]
  .rw[F]at h;rw[bp,dN];by_cases X:e<b.ep.length
   .rw[jR X]at h;refine⟨b,Zs,a,Ej J t a f.kd f.cx f.rl Zs f.w (oq _) (by have:=f.n1;omega) f.n2 e r h,λp u=>by rw[iD];exact eE _ u,by rw[x];omega,_,?_,by rw[jR Zo,ae,h];rfl⟩;simp only[ey,kM];refine⟨λm j=>yG,λj L V i=>?_,λj y=>pw (eN _ (eE _ y))⟩;refine pw (l:=b.ids++(ids r.2.1++ids r.2.2.cap)) (j:=j) ?_;rw[i];exact eN _ (eN _ (aG.2 ⟨L,V,A⟩))
   .rw[jv Zo]at h;obtain⟨ak,Z,o,z,S,am,q,U,B⟩:=Q _ r h;have i:a+Y.aZ t+(e-b.ep.length)=a+e:=Zo;rw[i]at z B;exact⟨ak,by simp[Z],o,z,λp u=>by rw[iD,G];exact eN _ (S p u),by rw[x];omega,q,U,by rw[jv Zo,I];exact B⟩
def Rj(l:IL)(p:Int->Bool)(f:bK)(first a:DL)(j:l.length<=ao)(hf:∀d∈first,Cl d)(hc:∀d∈a,Cl d)
 (fU:∀g∈l,au f (first++[I g]++a) (B (p g))):au 215 [ints l,.fn f first a] (I (et p l)):=by
 unfold ao at j;have i:(l.map λb=>[I b]).length=l.length:=Zs;refine Sp.e [] [.tmp 4] func215 ntmps215 ?_;simp only[go_sem,i];refine bq 8 l.length (λk=>Fw.Inv 19 [(0,ints l),(1,.fn f first a),(7,I l.length)] ((l.take k).any p=al)) A ⟨A,by simp[ints,ba,af],Zs⟩ ?_;rintro k o m b _ _ q hp;simp only[go_sem];refine aT (λh=>?_) λh=>?_
 .have aC:=bh h;have g0:(l.map λb=>[I b])[k]?=E [I l[k]]:=by simp[aC]
  exact GJ
 .exact lH
def Cm(a:IL)(f:Int->Bool)(e:bK)(first b:DL)(l:a.length<=ao)(j:∀d∈first,Cl d)(h:∀d∈b,Cl d)
 (i:∀g∈a,au e (first++[I g]++b) (B (f g))):au 153 [ints a,.fn e first b] (B (a.any f)):=by
 refine Sp.s [] [.tmp 4] func153 ntmps153 ?_;refine bO (Rj a f e first b l j h i) ?_;exact Fz.bool (mS a)
def Rh(l:bM)(p:Core->Bool)(d:bK)(first a:DL)(o:l.length<=ao)(m:∀b∈first,Cl b)(hc:∀b∈a,Cl b)
 (j:∀f∈l,au d (first++[.ag f.ds]++a) (B (p f))):au 210 [Core.sl l,.fn d first a] (I (et p l)):=by
 unfold ao at o;have i:=Core.bb l;refine Sp.e [] [.tmp 4] func210 ntmps210 ?_;simp only[go_sem,i];refine bq 8 l.length (λk=>Fw.Inv 19 [(0,Core.sl l),(1,.fn d first a),(7,I l.length)] ((l.take k).any p=al)) A ⟨A,by simp[Core.sl,ba,af],Zs⟩ ?_;rintro k s r w _ _ t hp;simp only[go_sem];refine aT (λh=>?_) λh=>?_
 .have aC:=bh h;have g:=Core.b1 l[k];have q:List.take 4 l[k].ds=l[k].ds:=cU Zo;have u:(l[k].ds).all b4=ad:=by rw[b6];exact Core.one l[k]
  simp only[h,Core.bo l k aC,g,q,go_sem];refine bB _ (j l[k] (ax aC)) (by simp only[lX,a7];exact⟨⟨m,Cl.bu (Core.cl _),Zs⟩,hc⟩) ?_;exact sF
 .exact lH
def IN(a:bM)(f:Core->Bool)(e:bK)(first b:DL)(l:a.length<=ao)(j:∀d∈first,Cl d)(h:∀d∈b,Cl d)
 (i:∀g∈a,au e (first++[.ag g.ds]++b) (B (f g))):au 149 [Core.sl a,.fn e first b] (B (a.any f)):=by
 refine Sp.s [] [.tmp 4] func149 ntmps149 ?_;refine bO (Rh a f e first b l j h i) ?_;exact Fz.bool (mS a)
def WB(a:Bool):au 288 [B a] (I (if a then 1 else 0)):=by
 refine Sp.s [] [.tmp 2] func288 ntmps288 ?_;cases a<;>simp only[go_sem]<;>exact Fz.int Zs
def J8(b:Int):au 232 [I b] (B (a1 b (0) 23)):=by
 refine Sp.s [] [.tmp 2] func232 ntmps232 ?_;by_cases a:(0:Int)<=b
 .simp only[a,go_sem];exact Fz.bool (by simp[a1,a]<;>omega)
 .simp only[a,go_sem];exact Fz.bool (by simp[a1,a]<;>omega)
def binds(d v:Int)(e:IL)(f:bM)(b:Nat):au 262 [.ag (Core.ds (.mk d v e f)),I b] (I (jU d b)):=by
 refine Sp.s [] [.tmp 4] func262 ntmps262 ?_
 repeat' (first|(refine mg (λa=>?_) (λa=>?_)<;>simp only[a,go_sem])|(refine aT (λa=>?_) (λa=>?_)<;>simp only[a,go_sem])|(refine bB _ (WB _) Zs ?_;simp only[go_sem]))
 all_goals(refine Fz.int ?_;simp_all[jU,Lg])
def SG(d v:Int)(e:IL)(f:bM)(b:Nat)(g:DL):au 241 [.cp (Core.ds (.mk d v e f)++g),I b] (I (jU d b)):=by
 refine Sp.s [] [.tmp 4] func241 ntmps241 ?_
 repeat' (first|(refine mg (λa=>?_) (λa=>?_)<;>simp only[a,go_sem])|(refine aT (λa=>?_) (λa=>?_)<;>simp only[a,go_sem]))
 all_goals(refine Fz.int ?_;simp_all[jU,Lg])
def SL(b:Int):au 121 [I b] (.tp [I (eC b).1,I (eC b).2.1,I (eC b).2.2.1,I (eC b).2.2.2]):=by
 refine Sp.s [] [.tmp 2,.tmp 3,.tmp 4,.tmp 5] func121 ntmps121 ?_
 repeat' (first|(refine mg (λa=>?_) (λa=>?_)<;>simp only[a,go_sem])|(refine aT (λa=>?_) (λa=>?_)<;>simp only[a,go_sem]))
 all_goals(refine Fz.same ?_ Zs;simp_all[eC])
def SM(b v:Int)(d:IL)(e:bM)(f:DL):au 122 [.cp (Core.ds (.mk b v d e)++f)] (B (so b v)):=by
 refine Sp.s [] [.tmp 2] func122 ntmps122 ?_
 repeat' (first|(refine mg (λa=>?_) (λa=>?_)<;>simp only[a,go_sem])|(refine aT (λa=>?_) (λa=>?_)<;>simp only[a,go_sem])|(refine bB _ (o5 _ _ _) Zs ?_;simp only[go_sem]))
 all_goals(refine Fz.bool ?_;simp_all[so,iG])
def TM(a:Int):au 233 [I a] (B (!a1 a 0 23)):=by
 refine Sp.s [] [.tmp 2] func233 ntmps233 ?_;refine bB _ (J8 a) Zs ?_;exact qf
def W9(g v:Int)(b:IL)(f:bM)(h:b.length<=ao):au 162 [.ag (Core.ds (.mk g v b f))] (B (kB (.mk g v b f))):=by
 have i:=Core.bb f;have j:∀a∈b,au 233 ([]++[I a]++[]) (B ((λa=>!a1 a 0 23) a)):=λa _=>by simpa using TM a
 refine Sp.e [] [.tmp 2] func162 ntmps162 ?_;simp only[i,go_sem];refine b7 ?_
 repeat' (first|(refine mg (λd=>?_) (λd=>?_)<;>simp only[d,go_sem])|(refine aT (λd=>?_) (λd=>?_)<;>simp only[d,go_sem])|(refine b7 ?_)|(refine bB _ (isInt _) Zs ?_;simp only[go_sem])|(refine bB _ (Dr _) Zs ?_;simp only[go_sem])|(refine bB _ (J8 _) Zs ?_;simp only[go_sem])|(refine bB _ (Cm b _ _ [] [] h Zs Zs j) Zs ?_;simp only[go_sem]))
 all_goals(refine Fz.bool ?_)
 all_goals(try rw[xH])
 all_goals(simp_all[kB,eC,so,a1,iG]<;>try omega)
def Pz(g v:Int)(f:IL)(a:bM)(z:Core.dQ a<9000000000000000000)(p:a.length<=ao)
 (m:∀h∈a,au 163 [.ag h.ds] (.tp [I h.cm,I h.cA])):
 au 163 [.ag (Core.ds (.mk g v f a))] (.tp [I (Core.mk g v f a).cm,I (Core.mk g v f a).cA]):=by
 unfold ao at p;refine Sp.s [] [.tmp 2,.tmp 3] func163 ntmps163 ?_;refine bq 11 a.length (λb=>Fw.Inv 30 [(9,Core.sl a),(10,I a.length),(2,I ((1+Core.co (a.take b):Nat):Int)),(3,I ((1+Core.dQ (a.take b):Nat):Int))] True) A ⟨A,by simp[Core.sl,ba,af,Core.co,Core.dQ],trivial⟩ ?_;rintro b y x F _ _ D-;simp only[go_sem];refine aT (λe=>?_) λe=>?_
 .have d:=bh e;have t:=ax d;have i:=Core.bo a b d;have l:=Core.b1 a[b];have r:List.take 4 a[b].ds=a[b].ds:=cU Zo;have q:(a[b].ds).all b4=ad:=by rw[b6];exact Core.one a[b]
  simp only[e,i,l,r,q,go_sem];refine bB _ (m a[b] t) (by simp;exact Core.cl _) ?_;have B:=Core.y9 a[b];have j:=Core.yZ a (b+1);rw[Core.rC a b d]at j;have C:=Core.y8 (a.take b);have u:=iX a[b].cm Zo;have w:=wrap_add (1+Core.dQ (a.take b)) a[b].cA Zo;simp only[u,w,go_sem];have m1:(if((a[b].cm+1:Nat):Int)>((1+Core.co (a.take b):Nat):Int)then((a[b].cm+1:Nat):Int)else((1+Core.co (a.take b):Nat):Int))=((1+Core.co (a.take (b+1)):Nat):Int):=by
   rw[Core.ku a b d];split<;>omega
  have m2:1+Core.dQ (a.take b)+a[b].cA=1+Core.dQ (a.take (b+1)):=by rw[Core.rC a b d];omega
  refine bg d ⟨A,?_,trivial⟩;exact BQ
 .have o:=bS e;subst o;simp only[e,go_sem];refine Fz.same ?_ Zs;simp[Core.cm,Core.cA]
def IR(a:Core)(d:a.cA<=1000000000)(b:a.ok):au 163 [.ag a.ds] (.tp [I a.cm,I a.cA]):=by
 match a,d,b with
 |.mk h v g i,d,b=>
 simp only[Core.ok]at b;simp only[Core.cA]at d;exact Pz h v g i Zo b.2.1 λf e=>IR f (by have:=Core.y4 e;omega) (Core.dW b.2.2 f e)
termination_by a
decreasing_by all_goals(have:=cH e;simp;omega)
def PA(a:Core)(g:a.cA<=1000000000)(f:a.ok):au 104 [.ag a.ds] (B (decide (a.cm<=80/\a.cA<=400))):=by
 have d:=Core.b1 a;have h:List.take 4 a.ds=a.ds:=cU Zo;have i:(a.ds).all b4=ad:=by rw[b6];exact Core.one a
 refine Sp.e [] [.tmp 2] func104 ntmps104 ?_;simp only[d,h,go_sem];refine bB _ (IR a g f) (by simp;exact Core.cl _) ?_;simp only[go_sem];by_cases b:a.cm<=80
 .have f1:decide ((a.cm:Int)<=80)=ad:=by simp;omega
  simp only[f1,go_sem];refine Fz.bool ?_;rw[jh];omega
 .have f1:decide ((a.cm:Int)<=80)=al:=by simp;omega
  simp only[f1,go_sem];refine Fz.bool ?_;simp[b]
def PC(e v:Int)(d:IL)(a:bM)(l:d.length<=ao)(K:Core.dQ a<9000000000000000000)(x:a.length<=ao)
 (u:∀g∈a,au 103 [.ag g.ds] (.tp [I (if g.aY then g.cm else 0),I (if g.aY then g.cA else 0),B g.aY])):
 au 103 [.ag (Core.ds (.mk e v d a))] (.tp [I (if(Core.mk e v d a).aY then(Core.mk e v d a).cm else 0),I (if(Core.mk e v d a).aY then(Core.mk e v d a).cA else 0),B (Core.mk e v d a).aY]):=by
 have O:=l;unfold ao at x;have t:Core.ds (.mk e v d a)=[I e,I v,ints d,.sl 4 (Core.ae a)]:=by rw[Core.ds]
 have i:(Core.mk e v d a).aY=(kB (.mk e v d a)&&a.all Core.aY):=by rw[Core.aY,Core.gB]
 refine Sp.s [] [.tmp 2,.tmp 3,.tmp 4] func103 ntmps103 ?_;refine bB _ (by have:=W9 e v d a l;rw[t]at this;exact this) (by simp;exact Core.bA _) ?_;cases o:kB (.mk e v d a)
 .simp only[go_sem];refine Fz.same ?_ Zs;simp[i,o]
 simp only[go_sem];refine bq 16 a.length (λb=>Fw.Inv 38 [(14,Core.sl a),(15,I a.length),(2,I ((1+Core.co (a.take b):Nat):Int)),(3,I ((1+Core.dQ (a.take b):Nat):Int))] ((a.take b).all Core.aY=ad)) A ⟨A,by simp[Core.sl,ba,af,Core.co,Core.dQ],Zs⟩ ?_;rintro b J G Q _ _ P j;simp only[go_sem];refine aT (λh=>?_) λh=>?_
 .have f:=bh h;have C:=ax f;have p:=Core.bo a b f;have r:=Core.b1 a[b];have z:List.take 4 a[b].ds=a[b].ds:=cU Zo;have y:(a[b].ds).all b4=ad:=by rw[b6];exact Core.one a[b]
  simp only[h,p,r,z,y,go_sem];refine bB _ (u a[b] C) (by simp;exact Core.cl _) ?_;have L:=Core.y9 a[b];have q:=Core.yZ a (b+1);rw[Core.rC a b f]at q;have M:=Core.y8 (a.take b);cases m:a[b].aY
  .simp only[go_sem];refine Fz.same ?_ Zs;simp[i,wH f m]
  have D:=iX a[b].cm Zo;have F:=wrap_add (1+Core.dQ (a.take b)) a[b].cA Zo;simp only[D,F,go_sem];have m1:(if((a[b].cm+1:Nat):Int)>((1+Core.co (a.take b):Nat):Int)then((a[b].cm+1:Nat):Int)else((1+Core.co (a.take b):Nat):Int))=((1+Core.co (a.take (b+1)):Nat):Int):=by
   rw[Core.ku a b f];split<;>omega
  have m2:1+Core.dQ (a.take b)+a[b].cA=1+Core.dQ (a.take (b+1)):=by rw[Core.rC a b f];omega
  refine bg f ⟨A,?_,by rw[kQ f,j,m];rfl⟩;exact BQ
 .have w:=bS h;subst w;rw[b9]at j;simp only[h,go_sem];refine Fz.same ?_ Zs;simp[Core.cm,Core.cA,i,o,j]
def IS(a:Core)(d:a.cA<=1000000000)(b:a.ok):au 103 [.ag a.ds] (.tp [I (if a.aY then a.cm else 0),I (if a.aY then a.cA else 0),B a.aY]):=by
 match a,d,b with
 |.mk h v g i,d,b=>
 simp only[Core.ok]at b;simp only[Core.cA]at d;exact PC h v g i b.1 Zo b.2.1 λf e=>IS f (by have:=Core.y4 e;omega) (Core.dW b.2.2 f e)
termination_by a
decreasing_by all_goals(have:=cH e;simp;omega)
def EM(a:Core)(g:a.cA<=1000000000)(f:a.ok):au 59 [.ag a.ds] (B a.valid):=by
 have b:=Core.b1 a;have h:List.take 4 a.ds=a.ds:=cU Zo;have i:(a.ds).all b4=ad:=by rw[b6];exact Core.one a
 refine Sp.e [] [.tmp 2] func59 ntmps59 ?_;simp only[b,h,go_sem];refine bB _ (IS a g f) (by simp;exact Core.cl _) ?_;cases d:a.aY
 .simp only[go_sem];exact Fz.bool (by simp[Core.valid,d])
 .simp only[b,h,go_sem];refine bB _ (PA a g f) (by simp;exact Core.cl _) ?_;simp only[go_sem];exact Fz.bool (by simp[Core.valid,d])
variable {m8:IL}{s1:bM}
def Ao{v:Int}{a e:Int}(b:kB (.mk a0 v m8 s1)=al):-1=lQ (.mk a0 v m8 s1) a e:=by
 unfold lQ;rw[av];rintro⟨d,_⟩;simp[Core.aY,b]at d
def SK(e v:Int)(d:IL)(a:bM)(f g:Int)(an:0<=f)(am:f<=80)(aq:0<=g)(ar:g<=400)(V:d.length<=ao)(Y:a.length<=ao)
 (X:∀L∈a,∀f g:Int,0<=f->f<=80->0<=g->g<=400->au 71 [.cp L.ds,I f,I g] (I (lQ L f g))):
 au 71 [.cp (Core.ds (.mk e v d a)),I f,I g] (I (lQ (.mk e v d a) f g)):=by
 unfold ao at Y V;have B:=Core.bb a;have C:(d.map λm=>[I m]).length=d.length:=Zs;have W:Core.ds (.mk e v d a)=[I e,I v,ints d,.sl 4 (Core.ae a)]:=by rw[Core.ds]
 have l:kB (.mk e v d a)=(a1 a.length (eC e).1 (eC e).2.1&&a1 d.length (eC e).2.2.1 (eC e).2.2.2&&so e v&&d.all λx=>a1 x 0 23):=A;have ap:(Core.mk e v d a).cm=1+Core.co a:=by rw[Core.cm]
 have S:(Core.mk e v d a).cA=1+Core.dQ a:=by rw[Core.cA]
 have D:(Core.mk e v d a).aY=(kB (.mk e v d a)&&a.all Core.aY):=by rw[Core.aY,Core.gB]
 refine Sp.s [] [.tmp 6] func71 ntmps71 ?_;refine bB _ (SL e) Zs ?_;simp only[go_sem];by_cases O:f<1
 .have f1:decide (f<1)=ad:=by simp[O]
  simp only[f1,go_sem];refine Fz.int ?_;unfold lQ;rw[av];omega
 have f1:decide (f<1)=al:=by simp;omega
 simp only[f1,go_sem];by_cases P:g<1
 .have f2:decide (g<1)=ad:=by simp[P]
  simp only[f2,go_sem];refine Fz.int ?_;unfold lQ;rw[av];omega
 have f2:decide (g<1)=al:=by simp;omega
 simp only[f2,B,go_sem];refine bB _ (o5 _ _ _) Zs ?_;cases o:a1 a.length (eC e).1 (eC e).2.1
 .simp only[go_sem];exact Fz.int (Ao (by rw[l,o];rfl))
 simp only[C,go_sem];refine bB _ (o5 _ _ _) Zs ?_;cases r:a1 d.length (eC e).2.2.1 (eC e).2.2.2
 .simp only[go_sem];exact Fz.int (Ao (by rw[l,o,r];rfl))
 simp only[go_sem];refine bB _ (by have:=SM e v d a [];rw[W,c_]at this;exact this) (by simp;exact Core.bA _) ?_;cases y:so e v
 .simp only[go_sem];exact Fz.int (Ao (by rw[l,o,r,y];rfl))
 simp only[go_sem];refine bq 11 d.length (λb=>Fw.Inv 103 [(0,.cp [I e,I v,ints d,.sl 4 (Core.ae a)]),(1,I f),(2,I g)] ((d.take b).all (λx=>a1 x 0 23)=ad)) A ⟨A,by simp[ints,ba,af],Zs⟩ ?_;rintro b Q M m _ _ F j;simp only[C,go_sem];refine aT (λi=>?_) λi=>?_
 .have h:=bh i;have t:(d.map λm=>[I m])[b]?=E [I d[b]]:=by simp[h]
  simp only[i,t,go_sem];refine bB _ (o5 _ _ _) Zs ?_;cases z:a1 d[b] 0 23
  .simp only[go_sem];exact Fz.int (Ao (by rw[l,wH h z,Bool.and_false]))
  .simp only[go_sem];refine bg h ⟨A,by simp[af],?_⟩;rw[kQ h,j,z];rfl
 have p:=bS i;rw[p,b9]at j;have G:kB (.mk e v d a)=ad:=by rw[l,o,r,y,j];rfl
 simp only[i,go_sem];refine bq 13 a.length (λb=>Fw.Inv 103 [(0,.cp [I e,I v,ints d,.sl 4 (Core.ae a)]),(1,I f),(2,I g),(12,I ((1+Core.dQ (a.take b):Nat):Int))] ((a.take b).all Core.aY=ad/\((1+Core.co (a.take b):Nat):Int)<=f/\((1+Core.dQ (a.take b):Nat):Int)<=g)) A ⟨A,?_,?_⟩ ?_
 .simp only[ints,List.take_zero,Core.dQ,a7,cS,ez,eJ,af,↓reduceIte,aP,reduceCtorEq,fa,nr,ji,bT,bU,aI,aV];rfl
 .simp[Core.co,Core.dQ];omega
 clear i j F p f1 f2;rintro b Q M m _ _ F⟨j,Z,ab⟩;simp only[B,go_sem];refine aT (λi=>?_) λi=>?_
 .have h:=bh i;have t:=Core.bo a b h;have J:=ax h;have ai:IntKind.i64.wrap (f-1)=f-1:=cW _ Zo;have ak:IntKind.i64.wrap (g-((1+Core.dQ (a.take b):Nat):Int))=g-((1+Core.dQ (a.take b):Nat):Int):=cW _ Zo;simp only[i,t,ai,ak,go_sem];refine bB _ (X a[b] J (f-1) (g-((1+Core.dQ (a.take b):Nat):Int)) Zo Zo Zo Zo) (by simp;exact Core.cl _) ?_;have U:=Core.qp a (b+1);have R:=Core.yZ a (b+1);rw[Core.ku a b h]at U;rw[Core.rC a b h]at R;by_cases q:a[b].aY=ad/\(a[b].cm:Int)<=f-1/\(a[b].cA:Int)<=g-((1+Core.dQ (a.take b):Nat):Int)
  .have u:lQ a[b] (f-1) (g-((1+Core.dQ (a.take b):Nat):Int))=a[b].cA:=by unfold lQ;rw[aM q]
   have w:decide ((a[b].cA:Int)<0)=al:=Zs;have ah:1+Core.dQ (a.take b)+a[b].cA=1+Core.dQ (a.take (b+1)):=by rw[Core.rC a b h];omega
   simp only[u,w,wrap_add (1+Core.dQ (a.take b)) a[b].cA Zo,go_sem];refine bg h ⟨A,?_,by rw[kQ h,j,q.1];rfl,?_,?_⟩
   .simp only[ah,a7,cS,ez,eJ,af,↓reduceIte,aP,reduceCtorEq,iK,ji,bT,bU,aI,aV]
   .rw[Core.ku a b h];omega
   .rw[Core.rC a b h];omega
  .have u:lQ a[b] (f-1) (g-((1+Core.dQ (a.take b):Nat):Int))=-1:=by unfold lQ;rw[av q]
   have w:decide ((-1:Int)<0)=ad:=A;simp only[u,w,go_sem];refine Fz.int ?_;unfold lQ;rw[av];rintro⟨K,aw,ay⟩;rw[D,G,hN,b6]at K;exact q ⟨K _ J,Zo,Zo⟩
 .have p:=bS i;subst p;rw[b9]at j Z ab;simp only[i,go_sem];refine Fz.int ?_;unfold lQ;rw[aM ⟨by rw[D,G,j];rfl,Zo,Zo⟩,b9,S]
def KA(e:Core)(a b:Int)(o:0<=a)(m:a<=80)(p:0<=b)(q:b<=400)(d:e.ok):au 71 [.cp e.ds,I a,I b] (I (lQ e a b)):=by
 match e,d with
 |.mk r v h s,d=>
 simp only[Core.ok]at d;exact SK r v h s a b o m p q d.1 d.2.1 λg f a b i j k l=>KA g a b i j k l (Core.dW d.2.2 g f)
termination_by e
decreasing_by all_goals(have:=cH f;simp;omega)
def DB(a:Core)(b:a.ok):au 41 [.cp a.ds] (B a.valid):=by
 refine Sp.s [] [.tmp 2] func41 ntmps41 ?_;refine bB _ (KA a 80 400 Zo Zo Zo Zo b) (by simp;exact Core.cl _) ?_;simp only[go_sem];exact Fz.bool (TK a)
def Ia(b:Int)(a:Nat):jU b a=0\/jU b a=1:=by unfold jU;split<;>simp
def SF(a v:Int)(f:IL)(d:bM)(b:Int)(K:0<=b)(D:b+(1+Core.co d:Nat)<1000000000000)(x:d.length<=ao)
 (u:∀o∈d,∀b:Int,0<=b->b+o.cm<1000000000000->au 183 [.cp o.ds,I b] (B (o.jJ b))):
 au 183 [.cp (Core.ds (.mk a v f d)),I b] (B ((Core.mk a v f d).jJ b)):=by
 unfold ao at x;have t:Core.ds (.mk a v f d)=[I a,I v,ints f,.sl 4 (Core.ae d)]:=by rw[Core.ds]
 have i:(Core.mk a v f d).jJ b=if a=1 then decide (v>=b)else Core.lh a d 0 b:=by rw[Core.jJ]
 refine Sp.s [] [.tmp 4] func183 ntmps183 ?_;by_cases h:a=1
 .have f1:(a==1)=ad:=by simp[h]
  simp only[f1,go_sem];exact Fz.bool (by rw[i,aM h])
 have f1:(a==1)=al:=by simp[h]
 rw[av h]at i;simp only[f1,go_sem];refine bq 5 d.length (λe=>Fw.Inv 38 [(0,.cp [I a,I v,ints f,.sl 4 (Core.ae d)]),(1,I b)] (Core.lh a (d.take e) 0 b=al)) A ⟨A,by simp[ints,ba,af],by simp[Core.lh]⟩ ?_;rintro e C z L _ _ J l;simp only[go_sem];refine aT (λg=>?_) λg=>?_
 .have j:=bh g;have r:=Core.bo d e j;have q:=ax j;simp only[g,r,go_sem];refine b7 ?_;refine eK _ (by have:=SG a v f d e [];rw[t,c_]at this;exact this) (by simp;exact Core.bA _) A ?_;have F:=Ia a e;have G:=Core.sS q;have y:IntKind.i64.wrap (b+jU a e)=b+jU a e:=cW _ Zo;simp only[y,go_sem];refine eK _ (u d[e] q _ Zo Zo) (by simp;exact Core.cl _) A ?_;have m:=Core.HG a b d 0 e j;rw[ek,l,p6]at m;cases p:(d[e]).jJ (b+jU a e)
  .simp only[go_sem];refine bg j ⟨A,?_,by rw[m,p]⟩;exact BR
  .simp only[go_sem];exact Fz.bool (by rw[i,Core.HF a b d 0 (e+1) (by rw[m,p])])
 .have w:=bS g;rw[w,b9]at l;simp only[g,go_sem];exact Fz.bool (by rw[i,l])
def Kz(b:Core)(a:Int)(k:0<=a)(e:a+b.cm<1000000000000)(d:b.ok):au 183 [.cp b.ds,I a] (B (b.jJ a)):=by
 match b,e,d with
 |.mk l v h m,e,d=>
 simp only[Core.ok]at d;rw[Core.cm]at e;exact SF l v h m a k e d.2.1 λg f a i j=>Kz g a i j (Core.dW d.2.2 g f)
termination_by b
decreasing_by all_goals(have:=cH f;simp;omega)
def Ph(e v:Int)(g:IL)(a:bM)(b:Int)(O:0<=b)(J:b+(1+Core.co a:Nat)<1000000000000)(y:a.length<=ao)
 (w:∀m∈a,∀b:Int,0<=b->b+m.cm<1000000000000->au 211 [.ag m.ds,I b] (B (m.under b))):
 au 211 [.ag (Core.ds (.mk e v g a)),I b] (B ((Core.mk e v g a).under b)):=by
 unfold ao at y;have u:Core.ds (.mk e v g a)=[I e,I v,ints g,.sl 4 (Core.ae a)]:=by rw[Core.ds]
 have i:(Core.mk e v g a).under b=(!(decide (e=1)&&decide (v>=b))&&Core.k4 e a 0 b):=by rw[Core.under]
 refine Sp.s [] [.tmp 4] func211 ntmps211 ?_
 repeat' (first|(refine mg (λf=>?_) (λf=>?_)<;>simp only[f,go_sem])|(refine aT (λf=>?_) (λf=>?_)<;>simp only[f,go_sem]))
 .refine Fz.bool ?_;simp_all
 all_goals
  have r:(!(decide (e=1)&&decide (v>=b)))=ad:=by simp_all
  rw[r,hN]at i;refine bq 19 a.length (λd=>Fw.Inv 33 [(2,.cp [I e,I v,ints g,.sl 4 (Core.ae a)]),(1,I b),(17,.sl 4 (Core.ae a)),(18,I a.length)] (Core.k4 e (a.take d) 0 b=ad)) A ⟨A,by simp[ints,ba,af],by simp[Core.k4]⟩ ?_;rintro d G F P _ _ M j;simp only[go_sem];refine aT (λf=>?_) λf=>?_
  .have h:=bh f;have q:=Core.bo a d h;have p:=ax h;have t:=Core.b1 a[d];have C:List.take 4 a[d].ds=a[d].ds:=cU Zo;have z:(a[d].ds).all b4=ad:=by rw[b6];exact Core.one a[d]
   simp only[f,q,t,C,z,go_sem];refine b7 ?_;refine eK _ (by have:=binds e v g a d;rw[u]at this;exact this) (by simp;exact Core.bA _) A ?_;have K:=Ia e d;have L:=Core.sS p;have D:IntKind.i64.wrap (b+jU e d)=b+jU e d:=cW _ Zo;simp only[D,go_sem];refine eK _ (w a[d] p _ Zo Zo) (by simp;exact Core.cl _) A ?_;have l:=Core.M7 e b a 0 d h;rw[ek,j,hN]at l;cases o:(a[d]).under (b+jU e d)
   .simp only[go_sem];exact Fz.bool (by rw[i,Core.M6 e b a 0 (d+1) (by rw[l,o])])
   .simp only[go_sem];refine bg h ⟨A,?_,by rw[l,o]⟩;simp only[a7,cS,ez,eJ,af,↓reduceIte,aP,iK,ji,bT,bU,aI,aV,reduceCtorEq]
  .have x:=bS f;rw[x,b9]at j;simp only[f,go_sem];exact Fz.bool (by rw[i,j])
def IF(b:Core)(a:Int)(k:0<=a)(e:a+b.cm<1000000000000)(d:b.ok):au 211 [.ag b.ds,I a] (B (b.under a)):=by
 match b,e,d with
 |.mk l v h m,e,d=>
 simp only[Core.ok]at d;rw[Core.cm]at e;exact Ph l v h m a k e d.2.1 λg f a i j=>IF g a i j (Core.dW d.2.2 g f)
termination_by b
decreasing_by all_goals(have:=cH f;simp;omega)
def IY(a:Core)(b:a.cA<=1000000000):(0:Int)+a.cm<1000000000000:=by
 have:=Core.y9 a;omega
def SI(a:Core)(d:a.cA<=1000000000)(b:a.ok):au 123 [.cp a.ds] (B (a.valid&&!a.jJ 0)):=by
 refine Sp.s [] [.tmp 2] func123 ntmps123 ?_;refine bB _ (DB a b) (by simp;exact Core.cl _) ?_;cases e:a.valid
 .exact qf
 simp only[go_sem];refine bB _ (Kz a 0 Zo (IY a d) b) (by simp;exact Core.cl _) ?_;exact qf
def isClosed(a:Core)(f:a.cA<=1000000000)(d:a.ok):au 151 [.ag a.ds] (B (a.valid&&!a.jJ 0)):=by
 have b:=Core.b1 a;have g:List.take 4 a.ds=a.ds:=cU Zo;have j:(a.ds).all b4=ad:=by rw[b6];exact Core.one a
 refine Sp.e [] [.tmp 2] func151 ntmps151 ?_;simp only[b,g,go_sem];refine bB _ (EM a f d) (by simp;exact Core.cl _) ?_;cases h:a.valid
 .exact qf
 simp only[b,g,go_sem];refine bB _ (IF a 0 Zo (IY a f) d) (by simp;exact Core.cl _) ?_;simp only[go_sem];refine Fz.bool ?_;have i:a.aY=ad:=by simp only[Core.valid,b3]at h;exact h.1
 rw[Core.M8 a 0 i]
end
end
end Go.Fw
namespace Go.Fw
noncomputable section
attribute [local irreducible] St.put
section
open Classical
structure Gc (c:Core) (b:Nat):Prop where
 n:c.cA<=b
 o:c.ok
variable {z5:Core}{h V:Nat}
def Gc.le(a:Gc z5 h)(b:h<=V):Gc z5 V:=⟨fY a.n b,a.o⟩
def lT:∀{a:bM},(∀c∈a,c.ok)->Core.eZ a
 |[],_=>trivial
 |c::a,b=>⟨b c Zs,lT λe d=>b e (by simp[d])⟩
def vj(a:h<=100000000):h<=ao:=by unfold ao;omega
variable {a0:Int}{m8:IL}
def Gc.La{v:Int}{a:bM}{ts:a_}(j:m8.length<=100000000)(f:a.length=ts.length)(p:ts.length<=100000000)(d:∀(b:Nat)(e:b<a.length)(g:b<ts.length),Gc a[b] (4000*ts[b].num)):Gc (.mk a0 v m8 a) (1+4000*Y.aR ts):=by
 have m:∀(a:bM)(ts:a_),a.length=ts.length->(∀(b:Nat)(e:b<a.length)(g:b<ts.length),Gc a[b] (4000*ts[b].num))->Core.dQ a<=4000*Y.aR ts:=λa=>by
  induction a with
  |nil=>intro ts _ _;simp[Core.dQ]
  |cons h a l=>
   intro ts f d
   match ts,f with
   |t::ts,f=>
    have e:=(d 0 Zs Zs).n;have g:=l ts (by simpa using f) λb e g=>by have:=d (b+1) (by simpa using e) (by simpa using g);simpa using this
    simp only[fO]at e;rw[Core.dQ,Y.aR];omega
 refine⟨?_,vj j,vj Zo,lT λh i=>?_⟩
 .rw[Core.cA];have:=m a ts f d;omega
 .obtain⟨b,k,rfl⟩:=dG i;exact(d b k Zo).o
def Gc.one{v:Int}(b:m8.length<=100000000)(a:Gc z5 h):Gc (.mk a0 v m8 [z5]) (h+1):=by
 refine⟨?_,vj b,vj Zs,a.o,trivial⟩;have:=a.n;simp only[Core.cA,Core.dQ];omega
variable {YP:Core}
def Gc.two{v:Int}(a:Gc z5 h)(b:Gc YP V):Gc (.mk a0 v [] [z5,YP]) (h+V+1):=by
 refine⟨?_,vj Zs,vj Zs,a.o,b.o,trivial⟩;have:=a.n;have:=b.n;simp only[Core.cA,Core.dQ];omega
def Gc.var(a v:Int):Gc (.mk a v [] []) 1:=(Gc.La (ts:=[]) Zs A Zs Zs).le (by simp[Y.aR])
variable {s1:bM}
def Gc.N2:∀{b:Core}{a:Nat},Gc b a->(∀d∈s1,Gc d 2)->Gc (lj b s1) (a+3*s1.length):=by
 induction s1 with
 |nil=>intro b a e _;exact e
 |cons d s1 h=>
  intro b a e f;refine(h (Gc.two e (f d Zs)) λi g=>f i (by simp[g])).le ?_;rw[di];omega
def Gc.KH(a:Gc z5 h):∀n,Gc (lO n z5) (h+n)
 |0=>a
 |n+1=>Gc.one Zs (Gc.KH a n)
def Gc.lets(b:Gc z5 h):∀a:IL,Gc (mU a z5) (h+2*a.length)
 |[]=>b
 |i::a=>(Gc.two (Gc.var 1 i) (Gc.lets b a)).le (by rw[di];omega)
def Cd(e:a_)(f:Env):(bz e f).length<=Y.aR e:=by
 have h:∀(b:a_)(a:aK),(b.foldl (λa d=>eA d [] a) a).length<=a.length+Y.aR b:=λb=>by
  induction b with
  |nil=>intro a;simp[Y.aR]
  |cons d b g=>intro a;have i:=w9 d [] a;have j:=g (eA d [] a);rw[iZ,Y.aR];omega
 refine fY (nl _ _) (fY (h _ []) ?_);cases e with
 |nil=>simp[Y.aR]
 |cons d b=>simp[Y.aR]
def zr(f:Nat):∀(a:List Bool)(d e:Nat),(gr f a d e).length<=a.length
 |[],_,_=>by simp[gr]
 |b::a,d,e=>by
  have g:=zr f a (d+1) (e+1);have h:=zr f a (d+1) e;rw[gr];split<;>simp<;>omega
variable {a5:aF}{g6:Env}{dg:BA}
def Gc.arg:Gc (lJ a5 g6 a0 dg) 2:=by
 have a:Gc (lx a5 g6 dg) 1:=by unfold lx;split<;>exact Gc.var _ _
 unfold lJ;split
 .exact Gc.one Zs a
 .exact a.le Zo
def MN{ab:aw}{ds:aF}:∀(j:Y)(d:Env)(e:Int)(f:Nat),j.num<=1000->j.sz<=1048576->Gc (cw ab ds j d e f).1 (4000*j.num)/\∀o∈(cw ab ds j d e f).2,Gc o 10000000
 |.mk s v y j D a,d,e,f,J,B=>by
  rw[Y.num]at J;have Q:Y.cG a<=1048576:=by rw[Y.sz]at B;omega
  have P:a.length<=1048576:=by rw[Y.sz]at B;omega
  have m:∀(b:Nat)(g:b<a.length)d e f,Gc (cw ab ds a[b] d e f).1 (4000*a[b].num)/\∀o∈(cw ab ds a[b] d e f).2,Gc o 10000000:=λb g d e f=>by
   have z:=Y.gV (ax g);have p:=Y.gj (ax g);exact MN a[b] d e f Zo Zo
  have x:∀(b:Nat)(g:b<a.length)d e f,(qR ab ds a).getD b (λ_ _ _=>(dw 0,[])) d e f=cw ab ds a[b] d e f:=λb g d e f=>by rw[vP,sy,gF,bR g];rfl
  have w:∀(b:Nat)(g:b<a.length),∃r t u,jf ab ds s y j D a (Y.mK a) (qR ab ds a) d e f b=cw ab ds a[b] r t u:=λb g=>by
   unfold jf;split
   .exact⟨_,_,_,x b g _ _ _⟩
   .exact⟨_,_,_,x b g _ _ _⟩
  have A:(qR ab ds a).length=a.length:=by rw[vP,bW]
  have M:=Cd a d;rw[cw,qQ];by_cases C:s=10
  .rw[aM C];by_cases i:0<a.length
   .rw[x 0 i];refine⟨(m 0 i d e f).1.le ?_,(m 0 i d e f).2⟩;have:=Y.gV (ax i);rw[Y.num];omega
   .rw[sy,v_ Zo];exact⟨(Gc.var 1 0).le (by rw[Y.num];omega),Zs⟩
  rw[av C];refine⟨?_,λo h=>?_⟩
  .rw[Y.num];simp only;split
   .exact(by unfold lx;split<;>exact Gc.var _ _:Gc (lx ds d y) 1).le Zo
   .split
    .have i:Gc (jf ab ds s y j D a (Y.mK a) (qR ab ds a) d e f 0).1 (4000*Y.aR a+1):=by
      by_cases i:0<a.length
      .obtain⟨r,t,u,q⟩:=w 0 i;rw[q];have:=Y.gV (ax i);exact(m 0 i _ _ _).1.le Zo
      .unfold jf;have:gg s 0=False:=by simp[gg]
       rw[av (by rw[this];exact id),sy,v_ Zo];exact(Gc.var 1 0).le Zo
     refine(Gc.N2 (Gc.one de i) λL F=>by obtain⟨ah,-,rfl⟩:=aG.1 F;exact Gc.arg).le ?_;rw[bW];omega
    .refine(Gc.La (ts:=a) Zs (by simp[A]) Zo λb z p=>?_).le Zo;obtain⟨r,t,u,q⟩:=w b p;rw[eI,List.getElem_range,q];exact(m b p _ _ _).1
  .obtain⟨X,K,h⟩:=ft.1 h;obtain⟨b,k,rfl⟩:=aG.1 K;have k:b<a.length:=by simpa[A]using k
   obtain⟨r,t,u,q⟩:=w b k;rw[q]at h;rcases cg.1 h with h|h
   .split at h
    .simp only[bG]at h;subst h;unfold p4;have z:=Y.gV (ax k);have p:=Y.gj (ax k);have R:((bz a d).filterMap (look d)).length<=1000:=by have:=List.length_filterMap_le (look d) (bz a d);omega
     have G:=zr ((bz a d).filterMap (look d)).length (((bz a d).filterMap (look d)).map λv=>decide (v.l=e+1)) 0 0;rw[bW]at G;have O:(((a[b]?).map (gy ab)).getD []).length<=1048576:=by
      rw[bR k];simp only[ey,kM];rcases I:a[b]with⟨S,ae,V,Z,W,U⟩
      rw[I,Y.sz]at p;simp only[gy,cL];split
      .rw[bW,wb];omega
      .simp
     exact(((m b k _ _ _).1.lets _).KH _).le Zo
    .cases h
   .exact(m b k _ _ _).2 o h
termination_by j=>SizeOf.sizeOf j
decreasing_by have:=cH (ax g);simp;omega
variable {g3:ay}{g5:bK}{a3:DL}{YN:Nat → D → Prop}
def jj.TP(t:lL g3 g5)(o:∀g,gx g3 (oe [] 1 g) g5 a3 (E 0) λF=>∃d,(∀h v,Rd h (F.env 0) v->Rd h d v)/\Cl d/\YN g d):jj g3 g5 a3 YN:=by
 refine⟨t,λe l vs r x y=>?_⟩;have a:=@aS.start e l [] [] [] 1 aa A r A Zs Zs Zs Zs;have a:aS _ _ _ (oe [] 1 e.heap.size) _ e:=⟨a.defers,a.size,a.env,a.obj,a.base,a.inj,a.below,a.m0,a.mm,a.zm,a.tree,a.nd,a.og,λf b=>by
  rcases b with b|⟨m,w,_⟩
  .exact b
  .cases w⟩
 refine((o e.heap.size) _ _ _ _ e (ba []) a vs x λB i v u z=>(y B i v u z).mono (kI λf=>by rintro(b|⟨_,b,_⟩);exact b;cases b)).2.mono ?_;rintro m P⟨v,i,G,L,J,K,I,rfl,b,s,d,p,j,q⟩;exact⟨v,d,A,mL b.below Zs,(p _ v (by simpa[St.put,af,oe]using s)).closed (λf M O k=>⟨dK (dr k) (λC=>(cR k).1 ((b.mm f).2 (.inl C))) Zs,hM⟩) j,j,q⟩
def Rz(a:bQ)(d:a.c.cA<=1000000000)(f:a.c.ok):au 87 [.ag (aW a)] (B (!a.c.valid)):=by
 have b:=EM a.c d f;rcases a with⟨⟨h,v,g,i⟩,j⟩
 refine Sp.e [] [.tmp 2] func87 ntmps87 ?_;simp only[aW,Core.ds,bf,a8]at b⊢;simp only[go_sem];refine bO b ?_;exact .cl _ (aO _)
def NS(l:List bQ)(F:l.length<=ao)(y:∀a∈l,a.c.cA<=1000000000/\a.c.ok):au 86 [.sl 5 (l.map aW),.fn 87 [] []] (B (l.any λa=>!a.c.valid)):=by
 have z:(l.map aW).length=l.length:=bW _;have C:au 141 [.sl 5 (l.map aW),.fn 87 [] []] (I (et (λa=>!a.c.valid) l)):=by
  unfold ao at F;refine Sp.e [] [.tmp 4] func141 ntmps141 ?_;simp only[go_sem,z];refine bq 8 l.length (λb=>Fw.Inv 19 [(0,.sl 5 (l.map aW)),(1,.fn 87 [] []),(7,I l.length)] ((l.take b).any (λa=>!a.c.valid)=al)) A ⟨A,by simp[ba,af],Zs⟩ ?_;rintro b L J P _ _ M h;simp only[go_sem];refine aT (λd=>?_) λd=>?_
  .have f:b<l.length:=by simpa using d
   have i:(l.map aW)[b]?=E (aW l[b]):=by simp[f]
   have q:=y _ (ax f);have j:=Rz l[b] q.1 q.2;have m:=any_take_succ (p:=λa:bQ=>!a.c.valid) f;rw[h,p6]at m;have o:=λg=>kW (p:=λa:bQ=>!a.c.valid) f h g;rcases G:l[b]with⟨⟨r,t,u,w⟩,K⟩
   rw[G]at i j m o;simp only[aW,Core.ds,bf,a8]at i j;simp only[d,i,go_sem];refine bw j ?_;cases g:(!(Core.mk r t u w).valid)
   .simp only[go_sem];exact bg f ⟨A,by simp[af],m.trans g⟩
   .simp only[go_sem];exact Fz.int (o g).symm
  .have D:b=l.length:=by simp at d;omega
   simp only[d,go_sem];refine Fz.int ?_;rw[D,b9]at h;exact(xr h).symm
 refine Sp.s [] [.tmp 4] func86 ntmps86 ?_;refine hU C (.c (Cl.fH (nc l)) (.c (Cl.qu Zs Zs) .n)) ?_;exact yt
def Jh:∀(a:Nd)(b:Nat),List.Sublist ((a.eR b).map λd=>d.1.id) a.ids:=λa b=>by
 have j:∀f∈a.ks,∀b,List.Sublist ((f.eR b).map λd=>d.1.id) f.ids:=λf i b=>Jh f b;have l:∀e,e<=a.ks.length->List.Sublist ((jy a b e).map λd=>d.1.id) ((a.ks.take e).map Nd.ids).flatten:=λe=>by
  induction e with
  |zero=>intro _;rw[zl];exact List.nil_sublist _
  |succ e k=>
   intro m;rw[wY Zo,bC,ch Zo,bC,fN];exact(k Zo).append (by simpa using j _ (ax _) _)
 have g:=l _ (b_ _);rw[b9]at g;rw[oR,bC,Nd.kx];have h:List.Sublist ((jy a b a.ks.length).map λd=>d.1.id) (a.bs.map Bi.id++(a.ks.map Nd.ids).flatten):=g.trans (List.sublist_append_right _ _);split
 .exact h.cons_cons _
 .exact h.cons _
termination_by a=>SizeOf.sizeOf a
decreasing_by exact Nd.lt i
def HT:∀(a:dv)(b:Nat),List.Sublist ((iD a b).map λd=>d.1.id) (a.map Nd.ids).flatten
 |[],b=>List.nil_sublist _
 |x::a,b=>by rw[iD,bC,bp,dN];exact(Jh x b).append (HT a _)
def Jf:∀(b:Nd)(d:Nat),∀e∈b.eR d,e.2.length<=b.num:=λb d e a=>by
 have l:∀g∈b.ks,∀d,∀e∈g.eR d,e.2.length<=g.num:=λg j d=>Jf g d;rw[oR]at a;have h:=@Nd.lS b;rcases cg.1 a with a|a
 .split at a
  .simp only[bG]at a;subst a;simp;omega
  .cases a
 .unfold jy at a;obtain⟨p,i,a⟩:=ft.1 a;obtain⟨k,f,rfl⟩:=aG.1 i;have f:k<b.ks.length:=by simpa using f
  rw[bR f]at a;have m:=l _ (ax f) _ e (by simpa using a);have o:=h.2.2 _ (ax f);omega
termination_by b=>SizeOf.sizeOf b
decreasing_by exact Nd.lt j
end
end
end Go.Fw
