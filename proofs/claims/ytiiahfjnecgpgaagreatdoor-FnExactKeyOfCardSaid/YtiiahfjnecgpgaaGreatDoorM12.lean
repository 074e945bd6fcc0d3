/- A part of the proof about KeyOf. No condition. -/
import Derived.Shelf.SortG.Plain
import Derived.Shelf.SortG.SortNone
import Derived.Shelf.SlicesG.CompactI
import Derived.KernelRfl
import Derived.Shelf.SlGeneric
import Derived.Ground.SlgnProg
import Derived.Shelf.Strconv.Itoa4
import Derived.Shelf.Strings.OnBuilder
import Derived.Shelf.Strings.BuilderK
import Derived.Test.YtiiahfjnecgpgaaGreatDoorM01
import Derived.Test.YtiiahfjnecgpgaaGreatDoorM05
import Derived.Test.YtiiahfjnecgpgaaGreatDoorM09
import Derived.Test.YtiiahfjnecgpgaaGreatDoorM10
import Derived.Test.YtiiahfjnecgpgaaGreatDoorM11
set_option maxRecDepth 100000
set_option maxHeartbeats 8000000
set_option linter.unusedSimpArgs false
set_option linter.unusedVariables false
set_option linter.defProp false
open Go.Proofs.Tryz
open Go.Proofs (Any.strconv_FormatInt_10 Any.strings_Join Any.strings_Join_none AnyG.slices_Compact_int AnyG.slices_Compact_int_empty AnyG.slices_Sort_int AnyG.slices_Sort_int_none Builder.Extra Lays.n156 Lays.n166 Lays.n169 LaysM.n173)
open Nat renaming reduceEqDiff->aP
open Go.Proofs.Tryz renaming prog->aB
open Go renaming maxLen->ao,Value->aE,Program->ay,World->aL,FuncId->bK,Func->iw,undef->cC,execOp->dl,wp_region_list->i6
open Option renaming some->E,none->aa
open Bool renaming true->ad,false->al
open Go.IntWalk renaming i64_in->cW
namespace Go.Fw
noncomputable section
attribute [local irreducible] St.put
abbrev Z(l:IL):ct:=l.map λi=>[I i]
def rq(a:IL):(Z a).flatten=a.map I:=by
 induction a with
 |nil=>rfl
 |cons d a b=>simp only[Z,bp,dN]at b⊢;rw[b];rfl
def jw(a:IL):∀b∈Z a,b.length=1:=Zs
def sO(d:IL):∀a∈(Z d).flatten,Cl a:=by
 rw[rq];intro a b;obtain⟨e,-,rfl⟩:=aG.1 b;exact aO _
def pu(d:IL):∀b∈Z d,∀a∈b,Cl a:=λb f a e=>sO d a (ft.2 ⟨b,f,e⟩)
def nK(a:IL):Cl (.sl 1 (Z a)):=Cl.fH (pu a)
def oB(b:IL)(a:Nat)(d:a<b.length):(Z b)[a]?=E [I b[a]]:=by simp[Z,d]
def dD(a:IL):(Z a).length=a.length:=Zs
attribute [go_sem,simp] dD
def nC(a b:IL):Z (a++b)=Z a++Z b:=Zs
def Dj(a:IL)(v:Int)(k:a.length<=1048576):au 56 [.sl 1 (Z a),I v] (I (et (λd=>decide (d=v)) a)):=by
 have f:=dD a;refine Sp.e [] [.tmp 4] func56 ntmps56 ?_;simp only[go_sem,f];refine bq 8 a.length (λb=>Fw.Inv 19 [(0,.sl 1 (Z a)),(1,I v),(7,I a.length)] ((a.take b).any (λd=>decide (d=v))=al)) A ⟨A,by simp[ba,af],Zs⟩ ?_;rintro b i g l _ _ j hp;simp only[go_sem];refine aT (λh=>?_) λh=>?_
 .have aC:=bh h;simp only[h,oB a b aC,go_sem];by_cases hc:a[b]=v
  .have f1:(v==a[b])=ad:=by simp[hc]
   simp only[f1,go_sem];exact Fz.int (kW aC hp (by simp[hc])).symm
  .have f1:(v==a[b])=al:=by simp[Ne.symm hc]
   exact Fo
 .exact lH
def NW(b:IL)(v:Int):(b.any λd=>decide (d=v))=decide (v∈b):=by
 by_cases a:v∈b
 .simp[a]
 .rw[bj a,qY];intro d e;simp only[cO];rintro rfl;exact a e
def Py(a:IL)(v:Int)(b:a.length<=1048576):au 98 [.sl 1 (Z a),I v] (B (decide (v∈a))):=by
 refine Sp.s [] [.tmp 4] func98 ntmps98 ?_;refine bO (Dj a v b) ?_;exact Fz.bool ((mS a).trans (NW a v))
def D6{n:Int}{r:IL}:∀{a:IL},(∀b∈a,b<n)->dx (a++r) n=a++dx r n
 |[],_=>rfl
 |y::a,d=>by
  have:=d y Zs;rw[bf,dx,av Zo,D6 λb e=>d b (by simp[e])];rfl
def lg(l:List Int)(n:Int)(i:Nat)(b:Bool)(a:List Int):Prop:=match b with
 |true=>a++l.drop i=dx l n
 |false=>(∀x∈l.take i,x<n)/\a=l.take i
variable {m8 wd:IL}{a0:Int}{h:Nat}{s2:Bool}
def Uq(a:lg m8 a0 h s2 wd):wd.length<=m8.length+1:=by
 cases s2 with
 |true=>
  have b:=dO List.length a;have d:=(DD (x:=a0) m8).2;simp at b;omega
 |false=>rw[a.2];simp;omega
def I2{a:IL}(b:h<a.length):a.drop h=a[h]::a.drop (h+1):=ph b
def Ut{a:IL}{d:IL}(e:h<a.length)(b:lg a a0 h ad d):lg a a0 (h+1) ad (d++[a[h]]):=by
 simp only[lg]at b⊢;rw[<-b,I2 e];simp
def LP{a:IL}{b:IL}(f:h<a.length)(d:lg a a0 h al b):dx a a0=b++dx (a[h]::a.drop (h+1)) a0:=by
 obtain⟨e,rfl⟩:=d;rw[<-I2 f,<-D6 e,lb]
def Up{a:IL}{b:IL}(e:h<a.length)(d:lg a a0 h al b)(f:a[h]>a0):lg a a0 (h+1) ad (b++[a0]++[a[h]]):=by
 simp only[lg];rw[LP e d,dx,aM Zo,aM f];simp
def Uo{a:IL}{b:IL}(e:h<a.length)(d:lg a a0 h al b)(f:a[h]>=a0)(g:¬a[h]>a0):lg a a0 (h+1) ad (b++[a[h]]):=by
 simp only[lg];rw[LP e d,dx,aM f,av g];simp
def Ur{a:IL}{e:IL}(d:h<a.length)(f:lg a a0 h al e)(j:¬a[h]>=a0):lg a a0 (h+1) al (e++[a[h]]):=by
 obtain⟨g,rfl⟩:=f;rw[<-ch d];refine⟨λi b=>?_,A⟩;rw[ch d,cg,bG]at b;rcases b with b|rfl
 .exact g i b
 .omega
def Dw(a:IL)(v:Int)(O:a.length<=1048576):au 76 [.sl 1 (Z a),I v] (.sl 1 (Z (dx a v))):=by
 have j:cy aB 79=E (2,1,8):=Zk;refine Sp.s [1000034,1000041,1000047] [.tmp 4] func76 ntmps76 ?_;refine bq 7 a.length (λe=>Fw.cK 49 [(0,.sl 1 (Z a)),(1,I v)] λz D n K=>∃(o:Bool)(b:IL),z 6=B o/\aH [8,34,41] D 2 1 (Z b) (z 5)/\lg a v e o b) A ⟨A,by simp[ba,af],⟨al,[],by simp[af],by simp[af];exact .inr ⟨8,_,Zs,A,by simp[aj]⟩,by simp[lg]⟩⟩ ?_;rintro e z D n K _ M⟨o,b,p,i,h⟩;obtain⟨Q,g⟩:=Zx (z 5);rw[g]at i;have P:=Uq h;simp only[go_sem];refine aT (λl=>?_) λl=>?_
 .have f:=bh l;have q:=oB a e f;simp only[l,p,go_sem];cases o with
  |true=>
   simp only[g,q,go_sem];refine GK.intro (dS.eF (S:=[8,34,41]) (rows:=Z (b)) (bx:=Z [a[e]]) j (by simp only[af,aI,aV,aP,bT,bU,reduceCtorEq];exact(i).congr bJ) (jw _) ga Zs nD (by rw[dD,dD];simp;omega) (by rw[dD,dD];unfold ao;simp;omega) λm u w d t=>?_);rw[<-nC]at d;simp only[go_sem];refine bg f ⟨A,by simp[af],⟨ad,b++[a[e]],by simp[af,p],?_,Ut f h⟩⟩;simpa[af]using(d).sub (S':=[8,34,41]) Zs
  |false=>
   by_cases x:a[e]>=v
   .simp only[bD x,q,go_sem];by_cases y:a[e]>v
    .simp only[bD y,g,go_sem];refine GK.intro (dS.eF (S:=[8,34,41]) (rows:=Z (b)) (bx:=Z [v]) j (by simp only[af,aI,aV,aP,bT,bU,reduceCtorEq];exact(i).congr bJ) (jw _) ga Zs nD (by rw[dD,dD];simp;omega) (by rw[dD,dD];unfold ao;simp;omega) λm u w J t=>?_);rw[<-nC]at J;simp only[q,go_sem];refine GK.intro (dS.eF (S:=[34]) (rows:=Z (b++[v])) (bx:=Z [a[e]]) j (by simp only[af,aI,aV,aP,bT,bU,reduceCtorEq];exact(J).congr bJ) (jw _) ga Zs nD (by rw[dD,dD];simp;omega) (by rw[dD,dD];unfold ao;simp;omega) λm u w d t=>?_);rw[<-nC]at d;simp only[go_sem];refine bg f ⟨A,by simp[af],⟨ad,b++[v]++[a[e]],by simp[af],?_,Up f h y⟩⟩;simpa[af]using(d).sub (S':=[8,34,41]) Zs
    .simp only[bj y,g,q,go_sem];refine GK.intro (dS.eF (S:=[8,34,41]) (rows:=Z (b)) (bx:=Z [a[e]]) j (by simp only[af,aI,aV,aP,bT,bU,reduceCtorEq];exact(i).congr bJ) (jw _) ga Zs nD (by rw[dD,dD];simp;omega) (by rw[dD,dD];unfold ao;simp;omega) λm u w d t=>?_);rw[<-nC]at d;simp only[go_sem];refine bg f ⟨A,by simp[af],⟨ad,b++[a[e]],by simp[af],?_,Uo f h x y⟩⟩;simpa[af]using(d).sub (S':=[8,34,41]) Zs
   .simp only[bj x,g,q,go_sem];refine GK.intro (dS.eF (S:=[8,34,41]) (rows:=Z (b)) (bx:=Z [a[e]]) j (by simp only[af,aI,aV,aP,bT,bU,reduceCtorEq];exact(i).congr bJ) (jw _) ga Zs nD (by rw[dD,dD];simp;omega) (by rw[dD,dD];unfold ao;simp;omega) λm u w d t=>?_);rw[<-nC]at d;simp only[go_sem];refine bg f ⟨A,by simp[af],⟨al,b++[a[e]],by simp[af,p],?_,Ur f h x⟩⟩;simpa[af]using(d).sub (S':=[8,34,41]) Zs
 .have L:=bS l;subst L;cases o with
  |true=>
   have C:b=dx a v:=by simpa[lg]using h
   simp only[l,g,p,go_sem];rw[<-C];exact i.fz Zd (jw _) (pu _)
  |false=>
   obtain⟨F,G⟩:=h;rw[b9]at F G;have C:b++[v]=dx a v:=by
    have:=D6 (n:=v) (r:=[]) F;rw[c_]at this;rw[this,G];rfl
   simp only[l,g,p,go_sem];refine GK.intro (dS.eF (S:=[8,34,41]) (rows:=Z (b)) (bx:=Z [v]) j (by simp only[af,aI,aV,aP,bT,bU,reduceCtorEq];exact(i).congr bJ) (jw _) ga Zs nD (by rw[dD,dD];simp;omega) (by rw[dD,dD];unfold ao;simp;omega) λm u w d t=>?_);rw[<-nC]at d;simp only[go_sem];rw[<-C];exact d.fz Zd (jw _) (pu _)
def LZ(t:Nat)(H:bt)(l:IL)(x:D):Prop:=x=.sl 1 (Z l)\/∃gn,x=.ms t gn l.length/\H t=E ⟨gn,2,1,(Z l).flatten,aa⟩
variable {fd:bt}{am:D}
def LZ.fz{t:Nat}{a:IL}(b:LZ t fd a am):Fz fd am (.sl 1 (Z a)):=by
 rcases b with rfl|⟨e,rfl,d⟩
 .exact .cl _ (nK a)
 .exact Fz.rows d A A (Nat.lt_add_one 0) Zs (jw a) A (pu a)
def LZ.Jr{t:Nat}(b:LZ t fd m8 am):Fz (bi [t] fd) am (.sl 1 (Z m8)):=by
 refine LZ.fz (t:=t) ?_;rcases b with rfl|⟨a,rfl,d⟩
 .exact .inl A
 .exact .inr ⟨a,A,by simpa[bi]using d⟩
def zn:∀(d a:IL),i7 a->i7 (d.foldl dx a)
 |[],a,b=>b
 |x::d,a,b=>zn d _ (H7 b)
def vm:∀(a b:IL),a0∈a.foldl dx b↔a0∈b\/a0∈a
 |[],b=>by simp
 |x::a,b=>by
  rw[iZ,vm a,DK,cJ];constructor
  .rintro((h|h)|h)
   .exact .inl h
   .exact .inr (.inl h)
   .exact .inr (.inr h)
  .rintro(h|h|h)
   .exact .inl (.inl h)
   .exact .inl (.inr h)
   .exact .inr h
def w5:∀(b a:IL),(b.foldl dx a).length<=a.length+b.length
 |[],a=>by simp
 |x::b,a=>by
  have:=w5 b (dx a x);have:=(DD (x:=x) a).2;simp only[iZ,di];omega
def Bh(n:Nat)(o:IL):Prop:=i7 o/\∀a∈o,0<=a/\a<(n:Int)
def Bh.len(a:Bh h m8):m8.length<=h:=tB (sI a.1) a.2
section
open Go.Sort (Holds putRow putCells onCells)
variable {g3:ay}{g5:bK}
def H_{B:iw}(a:(((g3.funcs[g5]?).map (·.name)).getD ""== "runtime.NumGoroutine")=al)(b:g3.funcs[g5]?=E {B with name:=((g3.funcs[g5]?).map (·.name)).getD ""}):Go.Proofs.Bears g3 g5 B:=⟨_,a,b⟩
def Vg:Go.Shelf.Ren:=⟨λ|53=>99|64=>157|63=>156|78=>225|79=>226|70=>216|71=>217|72=>218|73=>219|74=>220|75=>221|59=>222|76=>223|77=>224|88=>264|89=>265|90=>266|91=>267|92=>268|68=>269|96=>289|n=>n,λ|22=>79|23=>2|51=>254|67=>311|69=>257|61=>303|60=>302|44=>308|75=>336|79=>340|83=>357|84=>229|n=>n,λn=>n⟩
def Ms:Go.Proofs.SlLaysN.n53 aB Vg:=by constructor<;>first|kernel_rfl|(intro a;kernel_rfl)|exact H_ Zk Zk
def Pn:Go.Shelf.Ren:=⟨λ|43=>100|n=>n,λ|22=>79|23=>2|n=>n,λn=>n⟩
def IG:Go.Proofs.SlLaysN.n43 aB Pn:=by constructor<;>first|kernel_rfl|(intro a;kernel_rfl)|exact H_ Zk Zk
variable {i4:aL}{sm:cb}{m1:aE}
def LI{b:IL}(m:lF i4 sm 2 1 (Z b) m1 (E h)):∃a e,m1=.slice (E ⟨h,0,aa⟩) b.length a/\b.length<=a/\a<=ao/\e.size=a/\i4.heap[h]?=E (.cells e 2 (0,0))/\Holds (Value.int .i64) i4 h 0 b.toArray:=by
 obtain⟨a,e,rfl,g,p,f,o,l⟩:=m;rw[dD]at f⊢;refine⟨a,e,A,f.2,f.1,Zo,g,λi d=>?_⟩;have d:i<b.length:=by simpa using d
 obtain⟨m1,j,k⟩:=l i (I b[i]) (by rw[rq];simp[d]);cases k;refine⟨?_,?_⟩
 .simp only[World.cell?,g,ek];simp[j,d]
 .simp[World.frozen?,g]
variable {V:Nat}
def LJ{a:aL}{M:cb}{l:IL}{j:iA}(o:a.heap[h]?=E (.cells j 2 (0,0)))(s:j.size=V)(x:V<=ao)(D:l.length<=V)(i g:Nat)(y:g<=l.length)(e:Array Obj):
 (lu a M λB=>E h=E B).Ok (Go.Sort.grow (putRow (Value.int .i64) (Go.Sort.ahead a i) h 0 l.toArray) e)/\lF (Go.Sort.grow (putRow (Value.int .i64) (Go.Sort.ahead a i) h 0 l.toArray) e) M 2 1 (Z (l.take g)) (.slice (E ⟨h,0,aa⟩) g V) (E h):=by
 have w:h<a.heap.size:=(iY.1 o).1;have z:(a.heap.modify h (onCells (putCells (Value.int .i64) 0 l.toArray))).size=a.heap.size:=Zs;have p:(Go.Sort.grow (putRow (Value.int .i64) (Go.Sort.ahead a i) h 0 l.toArray) e).heap=a.heap.modify h (onCells (putCells (Value.int .i64) 0 l.toArray))++e:=A;have m:∀b,b<a.heap.size->(Go.Sort.grow (putRow (Value.int .i64) (Go.Sort.ahead a i) h 0 l.toArray) e).heap[b]?=if h=b then(a.heap[b]?).map (onCells (putCells (Value.int .i64) 0 l.toArray))else a.heap[b]?:=λb k=>by
  rw[p,uc Zo,Array.getElem?_modify]
 refine⟨⟨A,A,A,?_,λb k=>?_⟩,V,putCells (Value.int .i64) 0 l.toArray j,?_,?_,?_,?_,?_,?_⟩
 .rw[p,p5,z];show a.heap.size<=_;omega
 .have u:=Bs.r7 k;exact(m b u).trans (av λt=>k (.inr (by rw[t])))
 .rw[dD,fP,Nat.min_eq_left y]
 .rw[m h w,aM A,o];rfl
 .simp[putCells,s]
 .rw[dD,fP];exact⟨x,Zo⟩
 .rw[rq,bW,fP];simp[putCells,s];omega
 .intro f C d;rw[rq,gF]at d;rw[sA]at d;by_cases q:f<g
  case neg=>rw[av q]at d;cases d
  have r:f<l.length:=Zo;rw[aM q,bR r]at d;cases d;refine⟨.int .i64 l[f],?_,.sc _⟩;simp only[putCells,Array.getElem?_mapIdx,Array.getElem?_eq_getElem (show f<j.size by omega),ey];simp[r]
def Mt(l:IL)(G:l.length<=1000000):wq aB 99 [] 2 1 (Z l) (Z (mD l)) (.tp []):=by
 refine⟨⟨_,func99,A,A⟩,by rw[dD,dD,(tU l).length_eq],sO l,sO _,A,λb M vs K B D J t I f=>?_⟩;obtain rfl:vs=[]:=by simpa using t.symm
 cases B with
 |none=>
  obtain⟨s,rfl⟩:=f;have r:l=[]:=by simpa[Z]using s
  subst r;refine Calls.mono (AnyG.slices_Sort_int_none Ms aa 0 b) ?_;rintro k z⟨rfl,rfl⟩;exact⟨.tuple #[],A,⟨A,A,A,b_ _,λ_ _=>A⟩,⟨by simp[mD],A⟩,λh=>Rd.tp [] [] A (λu j v a=>by simp at a)⟩
 |some d=>
  obtain⟨i,L,rfl,C,m,o,e,p⟩:=LI f;have q:d<b.heap.size:=(iY.1 e).1;refine Calls.mono (AnyG.slices_Sort_int Ms d 0 i l b p q Zo) ?_;rintro k z⟨rfl,w,x,rfl⟩;have F:(mD l).length=l.length:=(tU l).length_eq;obtain⟨y,g⟩:=LJ (M:=M) (l:=mD l) e o m Zo w l.length Zo x;rw[cU Zo]at g;exact⟨.tuple #[],A,y,g,λh=>Rd.tp [] [] A (λu j v a=>by simp at a)⟩
def II(a:IL):(Lib.compact a).length<=a.length:=by
 rw[Lib.compact,Lib.compactUpTo,bW];exact fY (nl _ _) Zs
def Po(d:IL)(b:Int):b∈Lib.compact d↔b∈d:=by
 rw[Lib.compact,Lib.compactUpTo,aG];constructor
 .rintro⟨a,g,rfl⟩;have:=rb.1 (ko.1 g).1;simp[this]
 .intro l;have f:=List.findIdx_lt_length_of_exists (p:=λe=>decide (e=b)) ⟨b,l,Zs⟩;obtain⟨a,g⟩:∃a,d.findIdx (λe=>decide (e=b))=a:=⟨_,A⟩;rw[g]at f;have j:d[a]=b:=by
   have:=List.findIdx_getElem (w:=by rw[g];exact f) (p:=λe=>decide (e=b)) (xs:=d);simp only[g,cO]at this;exact this
  refine⟨a,ko.2 ⟨rb.2 f,?_⟩,by simp[f,j]⟩;rcases a with _|a
  .simp[Lib.keeps]
  .have k:d[a]≠b:=λh=>by
    have:=List.not_of_lt_findIdx (p:=λe=>decide (e=b)) (xs:=d) (i:=a) Zo;simp[h]at this
   simp[Lib.keeps,f,show a<d.length by omega,j]
   first|exact k|exact λh=>k h.symm|skip
def Pp(b:IL)(e:i7 b):Lib.compact b=b:=by
 refine Lib.compact_all b λa d=>?_;rcases a with _|a
 .simp[Lib.keeps]
 .have:=(List.pairwise_iff_getElem.1 e) a (a+1) Zo d Zo;simp[Lib.keeps,d,show a<b.length by omega];omega
def IH(l:IL):ib aB 100 [] [] 2 1 (Z l) (Z (Lib.compact l)):=by
 refine⟨⟨_,func100,A,A⟩,sO l,sO _,λi M h vs G x z F s t C D e=>?_⟩;obtain rfl:h=[]:=by simpa using s.symm
 obtain rfl:vs=[]:=by simpa using t.symm
 cases x with
 |none=>
  obtain⟨r,rfl⟩:=e;have q:l=[]:=by simpa[Z]using r
  subst q;refine Calls.mono (AnyG.slices_Compact_int_empty IG aa 0 i) ?_;rintro a w⟨rfl,rfl⟩;exact⟨_,aa,A,⟨A,A,A,b_ _,λ_ _=>A⟩,⟨by simp[Lib.compact,Lib.compactUpTo],A⟩,Zs⟩
 |some b=>
  obtain⟨j,h,rfl,k,d,m,p,o⟩:=LI e;refine Calls.mono (AnyG.slices_Compact_int IG b 0 j l i o (by unfold ao at d;omega) k) ?_;rintro a w⟨rfl,u,rfl⟩;have B:(Lib.compact l).length<=l.length:=II l;obtain⟨f,g⟩:=LJ (M:=M) (l:=Lib.compact l++List.replicate (l.length-(Lib.compact l).length) 0) p m d de u (Lib.compact l).length Zs #[];rw[List.take_left',Go.Sort.grow_empty]at g;rw[Go.Sort.grow_empty]at f
  .exact⟨_,E b,A,f,g,λy a=>by cases a;exact .inr A⟩
  .rfl
end
mutual
def Core.cY:Core->List Int
 |.mk k v d ks=>(if k=11 then[v]else[])++d++Core.eB ks
def Core.eB:List Core->List Int
 |[]=>[]
 |c::cs=>c.cY++Core.eB cs
end
def Core.xW:∀b a:bM,Core.eB (b++a)=Core.eB b++Core.eB a
 |[],a=>by simp[Core.eB]
 |c::b,a=>by rw[bf,Core.eB,Core.eB,Core.xW b a,dM]
def Core.AM(b:bM)(a:Nat)(d:a<b.length):Core.eB (b.take (a+1))=Core.eB (b.take a)++b[a].cY:=by
 rw[ch d,Core.xW];simp[Core.eB]
def Core.UW(a:bM)(d:Nat):∀b∈Core.eB (a.take d),b∈Core.eB a:=λb e=>by
 rw[<-lb d a,Core.xW];exact eE _ e
mutual
def Core.Ed:∀c:Core,c.aY=ad->c.cY.length<=5*c.cA
 |.mk k v d ks,h=>by
  obtain⟨a,b,g,e⟩:=pL h;have:=Core.Md ks e;rw[Core.cY,Core.cA,bF,bF];split<;>simp<;>omega
def Core.Md:∀l:List Core,(∀c∈l,c.aY=ad)->(Core.eB l).length<=5*Core.dQ l
 |[],_=>by simp[Core.eB]
 |c::cs,h=>by
  have a:=Core.Ed c (h c Zs);have b:=Core.Md cs λx f=>h x (by simp[f]);rw[Core.eB,Core.dQ,bF];omega
end
open Classical
variable {gs:Int}
def zv:decide (a0>=gs)=!decide (a0<gs):=by
 by_cases a:a0<gs
 .simp[a]
 .simp[a];omega
def kX(n:Int)(c:Core):Bool:=c.cY.all λa=>decide (a<n)
variable {z5:Core}
def vz:kX a0 z5=ad↔∀a∈z5.cY,a<a0:=by simp[kX]
def KB(g:Core)(b:Int)(o:g.ok):au 124 [.cp g.ds,I b] (B (kX b g)):=by
 match g,o with
 |.mk i v f e,o=>
 simp only[Core.ok]at o;have W:=λz(F:z∈e)=>KB z b (Core.dW o.2.2 z F);have S:=o.2.1;have R:=o.1;unfold ao at S R;have Q:=Core.bb e;have V:(f.map λb=>[I b]).length=f.length:=Zs;have p:(Core.mk i v f e).cY=(if i=11 then[v]else[])++f++Core.eB e:=by rw[Core.cY]
 have q:∀a,a∈(Core.mk i v f e).cY->¬a<b->al=kX b (.mk i v f e):=λa j r=>by
  symm;rw[<-Bool.not_eq_true,vz];exact λd=>r (d a j)
 have P:((i==11)=ad/\i=11/\¬v<b)\/((i==11)=al/\∀a∈(if i=11 then[v]else[]),a<b)\/((i==11)=ad/\v<b/\∀a∈(if i=11 then[v]else[]),a<b):=by
  by_cases h:i=11<;>by_cases m:v<b<;>simp[h,m]<;>omega
 refine Sp.s [] [.tmp 4] func124 ntmps124 ?_;rcases P with⟨h,rfl,m⟩|⟨h,D⟩|⟨h,m,D⟩
 .simp only[h,zv,bj m,go_sem];exact Fz.bool (q v (by rw[p];simp) m)
 all_goals
  first|simp only[h,zv,bD m,go_sem]|simp only[h,go_sem]
  refine bq 5 f.length (λd=>Fw.Inv 56 [(0,.cp [I i,I v,.sl 1 (f.map λb=>[I b]),.sl 4 (Core.ae e)]),(1,I b)] (∀a∈f.take d,a<b)) A ⟨A,by simp[ba,af],Zs⟩ ?_;rintro d L G X K J U t;simp only[V,go_sem];refine aT (λh=>?_) λh=>?_
  .have l:=bh h;have M:(f.map λb=>[I b])[d]?=E [I f[d]]:=by simp[l]
   simp only[h,M,zv,go_sem];by_cases g:f[d]<b
   .simp only[bD g,go_sem];refine bg l ⟨A,by simp[af],?_⟩;rw[ch l];intro a j;rcases cg.1 j with h|h
    .exact t a h
    .simp only[bG]at h;subst h;exact g
   .simp only[bj g,go_sem];exact Fz.bool (q f[d] (by rw[p];simp) g)
  have w:=bS h;subst w;rw[b9]at t;simp only[h,go_sem];clear h;refine bq 6 e.length (λd=>Fw.Inv 56 [(0,.cp [I i,I v,.sl 1 (f.map λb=>[I b]),.sl 4 (Core.ae e)]),(1,I b)] (∀a∈Core.eB (e.take d),a<b)) A ⟨A,by simp[af],by simp[Core.eB]⟩ ?_;rintro d L G X K J U u;simp only[Q,go_sem];refine aT (λh=>?_) λh=>?_
  .have l:=bh h;have C:=Core.AM e d l;simp only[h,Core.bo e d l,go_sem];refine bw (W e[d] (ax l)) ?_;cases y:kX b e[d]
   rotate_left
   .simp only[go_sem];refine bg l ⟨A,by simp[af],?_⟩;rw[C];intro a j;rcases cg.1 j with h|h
    .exact u a h
    .exact(vz.1 y) a h
   .have g:¬∀a∈e[d].cY,a<b:=λZ=>by rw[vz.2 Z]at y;cases y
    simp only[go_sem];simp only[not_forall]at g;obtain⟨a,j,r⟩:=g;exact Fz.bool (q a (by rw[p];exact eN _ (Core.UW e (d+1) a (by rw[C];exact eN _ j))) r)
  have w:=bS h;subst w;rw[b9]at u;simp only[h,go_sem];refine Fz.bool (vz.2 ?_).symm;rw[p];intro a j;rcases cg.1 j with h|h
  .rcases cg.1 h with h|h
   .exact D a h
   .exact t a h
  .exact u a h
termination_by g
decreasing_by all_goals(have:=cH F;simp;omega)
def jV(l:bM):Bool:=decide (1<=l.length/\l.length<=24)&&l.all λc=>(c.valid&&!c.jJ 0)&&kX (l.length:Int) c
variable {s1:bM}
def wL(b:jV s1=ad):(1<=s1.length/\s1.length<=24)/\∀a∈s1,a.valid=ad/\∀e∈a.cY,e<(s1.length:Int):=by
 simp only[jV,b3,cO,b6]at b;exact⟨b.1,λa d=>⟨(b.2 a d).1.1,vz.1 (b.2 a d).2⟩⟩
def SH(a:bM)(F:∀d∈a,d.cA<=1000000000/\d.ok)(Q:a.length<=1000000):au 72 [.cp [Core.sl a]] (B (jV a)):=by
 have m:=Core.bb a;have s:=o5 (a.length:Int) 1 24;have G:a1 (a.length:Int) 1 24=decide (1<=a.length/\a.length<=24):=by simp only[a1];congr 1;apply propext;omega
 rw[G]at s;have S:Core.sl a=.sl 4 (Core.ae a):=A;refine Sp.e [] [.tmp 2] func72 ntmps72 ?_;simp only[m,go_sem];refine bw s ?_;by_cases f:1<=a.length/\a.length<=24
 case neg=>
  simp only[bj f,go_sem];exact Fz.bool (by simp only[jV,bj f,mF])
 simp only[bD f,go_sem];refine bq 3 a.length (λb=>Fw.Inv 43 [(0,.cp [.sl 4 (Core.ae a)])] (∀d∈a.take b,((d.valid&&!d.jJ 0)&&kX (a.length:Int) d)=ad)) A ⟨A,by simp[ba,af],Zs⟩ ?_;rintro b M J U L K R o;simp only[m,go_sem];refine aT (λh=>?_) λh=>?_
 .have g:=bh h;have t:=ax g;have p:=Core.bo a b g;have l:=F _ t;have q:=SI a[b] l.1 l.2;have r:=KB a[b] a.length l.2;have P:=Core.cl a[b];have i:((a[b].valid&&!a[b].jJ 0)&&kX (a.length:Int) a[b])=al->al=jV a:=λD=>by
   symm;rw[jV,ud];exact .inr (List.all_eq_false.2 ⟨_,t,by simp only[Bool.not_eq_true];exact D⟩)
  obtain⟨y,j⟩:=Zx ((a[b].valid&&!a[b].jJ 0));obtain⟨z,k⟩:∃w,kX (a.length:Int) a[b]=w:=⟨_,A⟩;rw[j]at q;rw[k]at r;rw[j,k]at i;simp only[go_sem];refine b7 ?_;simp only[p,go_sem];refine d' q ?_;cases y
  .simp only[go_sem];exact Fz.bool (i A)
  simp only[p,m,go_sem];refine d' r ?_;cases z
  .simp only[go_sem];exact Fz.bool (i A)
  simp only[go_sem];refine bg g ⟨A,by simp[af],?_⟩;rw[ch g];intro u C;rcases cg.1 C with h|h
  .exact o u h
  .simp only[bG]at h;subst h;rw[j,k];rfl
 have I:=bS h;subst I;rw[b9]at o;simp only[h,go_sem];refine Fz.bool ?_;symm;rw[jV,bD f,hN,b6];exact o
def hY(l:bM)(m:Int):Int:=if jV l then(if a1 m 0 ((l.length:Int)-1)then 0 else 2)else 1
def SR(a:bM)(b:Int)(g:∀e∈a,e.cA<=1000000000/\e.ok)(i:a.length<=1000000):au 42 [.cp [Core.sl a],I b] (I (hY a b)):=by
 have h:=o5 b 0 ((a.length:Int)-1);have j:IntKind.i64.wrap ((a.length:Int)-1)=(a.length:Int)-1:=cW _ Zo;refine Sp.s [] [.tmp 4] func42 ntmps42 ?_;refine bw (SH a g i) ?_;cases d:jV a
 .simp only[go_sem];exact Fz.int (by simp[hY,d])
 simp only[Core.bb a,j,go_sem];refine bw h ?_;cases f:a1 b 0 ((a.length:Int)-1)
 .simp only[go_sem];exact Fz.int (by simp[hY,d,f])
 .simp only[go_sem];exact Fz.int (by simp[hY,d,f])
def KF(p:Core)(g:IL)(q:p.ok)(w:g.length+p.cY.length<=1000000):au 125 [.cp p.ds,.sl 1 (Z g)] (.sl 1 (Z (p.cY.foldl dx g))):=by
 match p,q,w with
 |.mk m v b e,q,w=>
 simp only[Core.ok]at q;have aw:=λJ(M:J∈e)g d=>KF J g (Core.dW q.2.2 J M) d;have ak:=q.2.1;have X:=q.1;unfold ao at ak X;have W:=Core.bb e;have av:(b.map λo=>[I o]).length=b.length:=Zs;obtain⟨h,F⟩:∃h,(if m=11 then[v]else[])=h:=⟨_,A⟩;have aq:(Core.mk m v b e).cY=h++b++Core.eB e:=by rw[Core.cY,F]
 rw[aq]at w⊢;simp only[bF]at w;have aD:h.length<=1:=by rw[<-F];split<;>simp
 have an:=Dw g v Zo;refine Sp.s [] [.tmp 4] func125 ntmps125 ?_;have V:((m==11)=ad/\h=[v])\/((m==11)=al/\h=[]):=by
  rw[<-F];by_cases d:m=11<;>simp[d]
 obtain⟨f,C⟩:=Zx (h.foldl dx g);have ab:∀z:IL,(h++z).foldl dx g=z.foldl dx f:=λz=>by rw[kn,C]
 have aB:f.length<=g.length+h.length:=by have:=w5 h g;rw[C]at this;omega
 rw[dM,ab];rcases V with⟨d,rfl⟩|⟨d,rfl⟩
 all_goals
  simp only[d,go_sem]
  try(refine bw an ?_;simp only[go_sem])
  refine hC 5 b.length (λa=>Fw.Inv 54 [(0,.cp [I m,I v,.sl 1 (b.map λo=>[I o]),.sl 4 (Core.ae e)]),(1,.sl 1 (Z ((b.take a).foldl dx f)))] True) A ⟨A,by simp[ba,af,<-C],trivial⟩ ?_;rintro a⟨U,Q,ay,az,S,R⟩ap r⟨rfl,t,-⟩;simp only[a7]at r t;obtain⟨i,j,-⟩:=t;simp only[r,i,av,go_sem];refine aT (λd=>?_) λd=>?_
  .have l:=bh d;have B:(b.map λo=>[I o])[a]?=E [I b[a]]:=by simp[l]
   have K:=w5 (b.take a) f;rw[fP]at K;have am:=Dw ((b.take a).foldl dx f) b[a] Zo;have ar:(b.take (a+1)).foldl dx f=dx ((b.take a).foldl dx f) b[a]:=by rw[ch l,kn];rfl
   simp only[r,i,j,B,go_sem];refine bw am ?_;simp only[r,go_sem];exact bg l ⟨A,by simp[af,i,ar],trivial⟩
  have G:=bS d;subst G;rw[b9]at j;obtain⟨y,D⟩:=Zx (b.foldl dx f);have aC:y.length<=f.length+b.length:=by have:=w5 b f;rw[D]at this;omega
  rw[D]at j;rw[kn,D];simp only[d,go_sem];clear d r;refine hC 6 e.length (λa=>Fw.Inv 54 [(0,.cp [I m,I v,.sl 1 (b.map λo=>[I o]),.sl 4 (Core.ae e)]),(1,.sl 1 (Z ((Core.eB (e.take a)).foldl dx y)))] True) A ⟨A,by simp[af,i,j,Core.eB],trivial⟩ ?_;rintro a⟨U,Q,ay,az,S,R⟩ap u⟨rfl,t,-⟩;simp only[a7]at u t;obtain⟨i,j,-⟩:=t;simp only[u,i,W,go_sem];refine aT (λd=>?_) λd=>?_
  .have l:=bh d;have B:=Core.bo e a l;have L:=Core.AM e a l;have K:=w5 (Core.eB (e.take a)) y;have aE:(Core.eB (e.take a)).length+e[a].cY.length<=(Core.eB e).length:=by
    rw[<-bF,<-L]
    conv=>rhs;rw[<-lb (a+1) e,Core.xW,bF]
    omega
   have P:=aw e[a] (ax l) ((Core.eB (e.take a)).foldl dx y) Zo;rw[<-kn,<-L]at P;simp only[u,i,j,B,go_sem];refine bw P ?_;simp only[u,go_sem];exact bg l ⟨A,by simp[af,i],trivial⟩
  have G:=bS d;subst G;rw[b9]at j;simp only[d,j,go_sem];exact .cl _ (nK _)
termination_by p
decreasing_by all_goals(have:=cH M;simp;omega)
section
open Classical
section
variable{u:Int->IL}{n:Nat}{m:Int}
def qO(u:Int->IL)(o:IL)(i:Int):IL:=(u i).foldl dx o
def U1(u:Int->IL)(o:IL):IL:=o.foldl (qO u) o
def kD(u:Int->List Int):Nat->List Int->List Int
 |0,o=>o
 |r+1,o=>U1 u (kD u r o)
def H8:∀(d a:IL),i7 a->i7 (d.foldl (qO u) a)
 |[],_,b=>b
 |i::d,a,b=>H8 d _ (zn (u i) a b)
def vn{d:Int}:∀(a b:IL),d∈a.foldl (qO u) b↔d∈b\/∃i∈a,d∈u i
 |[],b=>by simp
 |i::a,b=>by
  rw[iZ,vn a,qO,vm];simp only[cJ,exists_eq_or_imp,or_assoc]
def wk(u:Int->IL)(n:Nat)(m:Int)(o:IL):Prop:=i7 o/\m∈o/\∀a∈o,(0<=a/\a<(n:Int))/\kN u m a
def wk.len{b:IL}(a:wk u n m b):b.length<=n:=tB (sI a.1) λd e=>(a.2.2 d e).1
def Jt(o:∀a:Int,0<=a->a<n->∀h∈u a,0<=h/\h<n){d:IL}(g:wk u n m d)(e:IL)(l:∀f∈e,f∈d):wk u n m (e.foldl (qO u) d):=
 ⟨H8 e d g.1,(vn e d).2 (.inl g.2.1),λf b=>by
  rcases(vn e d).1 b with b|⟨a,k,b⟩
  .exact g.2.2 f b
  .obtain⟨i,j⟩:=g.2.2 a (l a k);exact⟨o a i.1 i.2 f b,j.last b⟩⟩
def CV(g:∀b:Int,0<=b->b<n->∀d∈u b,0<=d/\d<n)(e:0<=m)(f:m<n):∀r,wk u n m (kD u r [m])
 |0=>⟨by simp[kD,i7],by simp[kD],λh a=>by simp[kD]at a;subst a;exact⟨⟨e,f⟩,.refl _⟩⟩
 |r+1=>Jt g (CV g e f r) _ λh a=>a
def U2(r:∀g:Int,0<=g->g<n->∀f∈u g,0<=f/\f<n)(l:0<=m)(o:m<n):kD u n [m]=qw u n m:=by
 have e:=CV r l o;have s:∀b,(∀a∈kD u b [m],∀f∈u a,f∈kD u b [m])\/b+1<=(kD u b [m]).length:=λb=>by
  induction b with
  |zero=>exact .inr (by simp[kD])
  |succ b h=>
   have i:∀a∈kD u b [m],a∈kD u (b+1) [m]:=λa d=>(vn _ _).2 (.inl d);by_cases j:(kD u (b+1) [m]).length<=(kD u b [m]).length
   .refine .inl λa d f p=>?_;rw[<-(VA (e b).1 (e (b+1)).1 i j)]at d;exact(vn _ _).2 (.inr ⟨a,d,p⟩)
   .rcases h with h|h
    .have k:=wJ (e b).1 (e (b+1)).1 λa=>⟨i a,λd=>by
      rcases(vn _ _).1 d with d|⟨g,q,d⟩
      .exact d
      .exact h g q a d⟩
     exact .inl (k▸h)
    .exact .inr Zo
 exact wJ (e n).1 (uF _) λa=>HN (e n).2.1 (λa d=>((e n).2.2 a d).1) (λa d=>((e n).2.2 a d).2) ((s n).resolve_right λj=>by have:=(e n).len;omega) a
end
def gQ(l:bM)(i:Int):IL:=match l[i.toNat]? with|some c=>c.cY.foldl dx []|none=>[]
def EK{b:bM}(a:Nat)(d:a<b.length):gQ b a=b[a].cY.foldl dx []:=by simp[gQ,d]
def Ec:∀(d:Core),d.aY=ad->∀b∈d.cY,0<=b
 |.mk s v p j,f,b,a=>by
  obtain⟨g,q,r,k⟩:=pL f;have i:∀d∈j,∀b∈d.cY,0<=b:=λd h=>Ec d (k d h);have l:∀e:bM,(∀d∈e,∀b∈d.cY,0<=b)->∀b∈Core.eB e,0<=b:=λe=>by
   induction e with
   |nil=>simp[Core.eB]
   |cons d e i=>
    intro f b a;rw[Core.eB,cg]at a;rcases a with a|a
    .exact f d Zs b a
    .exact i (λd h=>f d (by simp[h])) b a
  rw[Core.cY,cg,cg]at a;rcases a with(a|a)|a
  .split at a
   .simp only[bG]at a;subst a;rename_i o;subst o;simp[kB,so,a1]at g;omega
   .cases a
  .simp only[kB,b3,b6]at g;have:=g.2 b a;simp[a1]at this;omega
  .exact l j i b a
def SV(a:bM)(q:∀b∈a,b.ok/\b.cY.length<=1000000)(P:a.length<=1000000):au 74 [.cp [Core.sl a]] (.sl 1 (a.map λb=>[.sl 1 (Z (b.cY.foldl dx []))])):=by
 have C:=Core.bb a;have R:Core.sl a=.sl 4 (Core.ae a):=A;have B:cy aB 156=E (79,1,24):=Zk;refine Sp.s [1000025] [.tmp 2] func74 ntmps74 ?_;refine bq 4 a.length (λd=>Fw.cK 27 [(0,.cp [.sl 4 (Core.ae a)])] λj o n z=>aH [5,25] o 79 1 ((a.take d).map λb=>[.sl 1 (Z (b.cY.foldl dx []))]) (j 3)) A ⟨A,by simp[ba,af],.inr ⟨5,0,Zs,by simp[af],by simp[aj]⟩⟩ ?_;rintro d j o U z M Q l;obtain⟨X,i⟩:=Zx (j 3);rw[i]at l;simp only[C,go_sem];have x:∀f,∀g∈(a.take f).map λb=>[D.sl 1 (Z (b.cY.foldl dx []))],g.length=1:=λf g e=>by obtain⟨K,-,rfl⟩:=aG.1 e;rfl
 have G:∀f,∀g∈(a.take f).map λb=>[D.sl 1 (Z (b.cY.foldl dx []))],∀p∈g,Cl p:=λf g e p r=>by
  obtain⟨K,-,rfl⟩:=aG.1 e;simp only[bG]at r;subst r;exact nK _
 refine aT (λe=>?_) λe=>?_
 .have h:=bh e;have w:=ax h;have y:((a.take d).map λb=>[D.sl 1 (Z (b.cY.foldl dx []))]).length=d:=by simp;omega
  have I:((a.take (d+1)).map λb=>[D.sl 1 (Z (b.cY.foldl dx []))])=((a.take d).map λb=>[D.sl 1 (Z (b.cY.foldl dx []))])++[[.sl 1 (Z (a[d].cY.foldl dx []))]]:=by
   rw[ch h,bC];rfl
  simp only[i,Core.bo a d h,go_sem];refine fm [22] (KF a[d] [] (q _ w).1 (by simpa using(q _ w).2)) (.c (.cl _ (Cl.eX (Core.cl a[d]))) (.c (Fz.rows (ob:=⟨_,2,1,[],aa⟩) (by simp only[bi,bG,aI,bH]) A A Zd A Zs A Zs) .n)) (nK _) ?_;simp only[go_sem];refine GK.intro (dS.eF (S:=[5,25]) (rows:=(a.take d).map λb=>[.sl 1 (Z (b.cY.foldl dx []))]) (bx:=[[.sl 1 (Z (a[d].cY.foldl dx []))]]) B (by simp only[af,aI,aV,aP,bT,bU,reduceCtorEq];exact l.congr (by simp[aj,aN])) (x d) ga Zs A (by rw[y];show(d+1)*24<=_;omega) (by rw[y];show d+1<=ao;unfold ao;omega) λL V W J O=>?_);simp only[go_sem];exact bg h ⟨A,by simp[af],by rw[I];exact J.sub Zs⟩
 have F:=bS e;subst F;simp only[e,i,go_sem];have t:=l.fz Zd (x a.length) (G a.length);rw[b9]at t;exact t
def Sb(a:IL)(h:a.length<=1000000):au 75 [.sl 1 (Z a)] (.sl 1 (Z a)):=by
 have d:cy aB 79=E (2,1,8):=Zk;refine Sp.s [1000005] [.tmp 2] func75 ntmps75 ?_;refine GK.uE (S:=[3]) (rows:=[]) (bx:=Z a) Zd d (by simp only[af,bT,bU,aI,aV,aP,reduceCtorEq];exact .inr ⟨3,0,Zs,A,by simp[aj]⟩) Zs (by simp[af,cF]) (λe=>by simp[af,e]) nD (by rw[dD];simp;omega) (by rw[dD];unfold ao;simp;omega) λf l o g j b i=>?_;simp only[go_sem];rw[a8]at b;exact b.fz Zd (jw _) (pu _)
def SU(a:bM)(av:∀y∈a,y.ok/\y.cY.length<=1000000)(aW:1<=a.length/\a.length<=24)(F:∀d:Int,0<=d->d<a.length->∀ab∈gQ a d,0<=ab/\ab<(a.length:Int))(m:Nat)(aY:m<a.length):au 43 [.cp [Core.sl a],I m] (.sl 1 (Z (qw (gQ a) a.length m))):=by
 have aG:Core.sl a=.sl 4 (Core.ae a):=A;have U:=SV a av Zo;have aw:Cl (.cp [Core.sl a]):=Cl.eX cu;have ay:=CV F (show(0:Int)<=m by omega) (show(m:Int)<(a.length:Nat)by omega);rw[<-U2 F Zo Zo];rw[aG]at U aw⊢;obtain⟨o,Q⟩:∃o,(a.map λy=>[D.sl 1 (Z (y.cY.foldl dx []))])=o:=⟨_,A⟩;have aR:o.length=a.length:=by rw[<-Q];simp
 have ar:∀(d:Nat)(b:d<a.length),o[d]?=E [.sl 1 (Z (gQ a d))]:=λd b=>by rw[<-Q,EK d b];simp[b]
 have aD:=λ(an:IL)(b:an.length<=1000000)=>Sb an b;rw[Q]at U;refine Sp.s [1000024] [.tmp 4] func43 ntmps43 ?_;refine bO U ?_;refine bq 7 a.length (λq=>Fw.cK 57 [(0,.cp [.sl 4 (Core.ae a)]),(5,.sl 1 o)] λi l n t=>LZ 14 l (kD (gQ a) q [(m:Int)]) (i 6)) A ⟨A,by simp[af,ba],by simp[af];exact .inr ⟨0,A,by simp[aj,kD]⟩⟩ ?_;rintro q i l a2 t X a0 f;obtain⟨a5,h⟩:=Zx (i 6);rw[h]at f;obtain⟨e,R⟩:∃e,kD (gQ a) q [(m:Int)]=e:=⟨_,A⟩;have z:=ay q;have aF:kD (gQ a) (q+1) [(m:Int)]=e.foldl (qO (gQ a)) e:=by rw[<-R];rfl
 rw[R]at f z;have aZ:=z.len;simp only[go_sem];refine aT (λb=>?_) λb=>?_
 .have aC:=bh b;simp only[go_sem];refine GK.fe [14] 6 (.sl 1 (Z e)) (by simp only[af,aV,aP,h,bT,bU,aI,reduceCtorEq];exact f.Jr) (nK _) λaN aQ=>?_;refine GK.intro ?_;simp only[go_sem];refine bO (aD e Zo) ?_;refine bq 9 e.length (λd=>Fw.cK 57 [(0,.cp [.sl 4 (Core.ae a)]),(5,.sl 1 o),(7,I q),(8,.sl 1 (Z e))] λi l n t=>LZ 14 l ((e.take d).foldl (qO (gQ a)) e) (i 6)) A ⟨A,by simp[af],.inl iN⟩ ?_;clear f;rintro d i l a3 t X aS f;obtain⟨a6,h⟩:=Zx (i 6);rw[h]at f;obtain⟨w,B⟩:=Zx ((e.take d).foldl (qO (gQ a)) e);have P:=Jt F z (e.take d) λK p=>p9 p;rw[B]at f P;simp only[go_sem];refine aT (λb=>?_) λb=>?_
  .have G:=bh b;obtain⟨aK,aL⟩:=(z.2.2 _ (ax G)).1;have L:=oB e d G;have S:(e.take (d+1)).foldl (qO (gQ a)) e=(gQ a e[d]).foldl dx w:=by rw[ch G,kn,B];rfl
   obtain⟨r,aM⟩:∃r:Nat,e[d]=r:=⟨e[d].toNat,Zo⟩;rw[aM]at L aK aL S;have M:=ar r Zo;have V:=F r Zo Zo;obtain⟨j,aJ⟩:=Zx (gQ a r);have am:i7 (gQ a r):=by rw[EK r Zo];exact zn _ _ (by simp[i7])
   rw[aJ]at M V S am;have a1:j.length<=a.length:=tB (sI am) V;have aq:∀g,Bh a.length ((j.take g).foldl dx w):=λg=>⟨zn _ _ P.1,λK p=>by
    rcases(vm _ _).1 p with p|p
    .exact(P.2.2 K p).1
    .exact V K (p9 p)⟩
   simp only[go_sem];refine bq 10 j.length (λg=>Fw.cK 57 [(0,.cp [.sl 4 (Core.ae a)]),(5,.sl 1 o),(7,I q),(8,.sl 1 (Z e)),(9,I d)] λi l n t=>LZ 14 l ((j.take g).foldl dx w) (i 6)) A ⟨A,by simp[af],by simpa[af,h]using f⟩ ?_;clear f;rintro g i l a4 t X aU f;obtain⟨a9,h⟩:=Zx (i 6);rw[h]at f;have ak:=aq g;obtain⟨J,C⟩:=Zx ((j.take g).foldl dx w);rw[C]at f ak;have aX:=ak.len;simp only[L,M,go_sem];refine aT (λb=>?_) λb=>?_
   .have W:=bh b;have ap:=oB j g W;have aH:(j.take (g+1)).foldl dx w=dx J j[g]:=by rw[ch W,kn,C];rfl
    simp only[h,L,M,ap,go_sem];refine Cb [14] [.sl 1 (Z J),I j[g]] (.sl 1 (Z (dx J j[g]))) (Dw J _ Zo) A (by simp only[a8,c_,ot,ou,a7];exact⟨f.Jr,.cl _ (aO _),Zs⟩) (nK _) ?_;simp only[go_sem];refine bg W ⟨A,by simp[af],?_⟩;rw[aH];exact .inl iN
   have aB:=bS b;subst aB;rw[b9]at C;simp only[b,go_sem];refine bg G ⟨A,by simp[af],?_⟩;rw[S,C];simpa[af,h]using f
  have az:=bS b;subst az;rw[b9]at B;simp only[b,go_sem];refine bg aC ⟨A,by simp[af],?_⟩;rw[aF,B];simpa[af,h]using f
 have aE:=bS b;subst aE;simp only[b,h,go_sem];rw[R];exact f.fz
end
mutual
def Core.aJ(f:Int->Int):Core->Core
 |.mk k v d ks=>.mk k (if k=11 then f v else v) (d.map f) (Core.pX f ks)
def Core.pX(f:Int->Int):List Core->List Core
 |[]=>[]
 |c::cs=>c.aJ f::Core.pX f cs
end
def Core.xT(a:Int->Int):∀b:bM,Core.pX a b=b.map (Core.aJ a)
 |[]=>rfl
 |c::d=>by rw[Core.pX,Core.xT a d];rfl
def Core.Eb:a0∈Core.eB s1↔∃a∈s1,a0∈a.cY:=by
 induction s1 with
 |nil=>simp[Core.eB]
 |cons a s1 b=>rw[Core.eB,cg,b];simp
def Core.L1{d e:Int->Int}:∀a:Core,(∀b∈a.cY,d b=e b)->a.aJ d=a.aJ e
 |.mk j v p i,f=>by
  have o:∀a∈i,(∀b∈a.cY,d b=e b)->a.aJ d=a.aJ e:=λa h=>Core.L1 a;have k:(if j=11 then d v else v)=if j=11 then e v else v:=by
   split
   .rename_i m;exact f v (by rw[Core.cY,aM m];simp)
   .rfl
  have l:Core.pX d i=Core.pX e i:=by
   rw[Core.xT,Core.xT];exact gX λa h=>o a h λb g=>f b (by rw[Core.cY];exact eN _ (Core.Eb.2 ⟨a,h,g⟩))
  rw[Core.aJ,Core.aJ,k,gX λb g=>f b (by rw[Core.cY];simp[g]),l]
open Classical
variable {be g2 g7:D}
def Fz.NP(a:Fz fd am g2)(b:Fz fd be g7):Fz fd (.ag [I a0,I gs,am,be]) (.ag [I a0,I gs,g2,g7]):=Fz.lI (.c (.cl _ (aO _)) (.c (.cl _ (aO _)) (.c a (.c b .n))))
def KG(c:Core)(now:IL)(l:c.aY=ad)(hr:∀a∈c.cY,a<(now.length:Int)):au 44 [.cp c.ds,.sl 1 (Z now)] (.ag (c.aJ λa=>now.getD a.toNat 0).ds):=by
 have ih:∀x:Core,SizeOf.sizeOf x<SizeOf.sizeOf c->x.aY=ad->(∀a∈x.cY,a<(now.length:Int))->au 44 [.cp x.ds,.sl 1 (Z now)] (.ag (x.aJ λa=>now.getD a.toNat 0).ds):=λx hx h hr=>KG x now h hr;obtain⟨f,j⟩:∃f:Int->Int,(λa=>now.getD a.toNat 0)=f:=⟨_,A⟩;rw[j]at ih⊢;have JK:∀a∈c.cY,∃w:Nat,a=w/\(w<now.length)/\(Z now)[w]?=E [I (f a)]:=λa ha=>by
  have o:=(Ec c l) a ha;have e:=hr a ha;refine⟨a.toNat,Zo,Zo,?_⟩;rw[oB now _ Zo,<-j];simp[List.getD,show a.toNat<now.length by omega]
 obtain⟨k,v,d,ks⟩:=c;have CB:cy aB 38=E (81,4,64):=Zk;have CC:cy aB 79=E (2,1,8):=Zk;obtain⟨-,p,r,te⟩:=pL l;have iR:=Core.bb ks;have Q9:(d.map λn=>[I n]).length=d.length:=Zs;have t:=dD now;rw[Core.aJ,Core.xT];obtain⟨v',m⟩:∃v',(if k=11 then f v else v)=v':=⟨_,A⟩;rw[m];refine Sp.s [] [.cell 4 81] func44 ntmps44 ?_;refine cX [] [] ?_;simp only[go_sem];have g:((k==11)=ad/\v'=f v/\v∈(Core.mk k v d ks).cY)\/((k==11)=al/\v'=v):=by
  rw[<-m];by_cases h:k=11<;>simp[h,Core.cY]
 rcases g with⟨h,e,g⟩|⟨h,e⟩
 .obtain⟨w,i,Q7,xp⟩:=JK v g;have Q8:=bP Zo;simp only[i]at xp e;simp only[h,i,xp,go_sem];refine bq 6 d.length (λq=>Fw.cK 77 [(0,.cp [I k,I v,.sl 1 (d.map λn=>[I n]),.sl 4 (Core.ae ks)]),(1,.sl 1 (Z now)),(4,.rf 4 0 0),(5,.rf 5 0 0)] λenv H n1 T=>(∃c4,H 4=E ⟨0,81,4,c4,aa⟩/\c4.length=4)/\∃x,H 5=E ⟨0,81,4,[I k,I v',x,a'],aa⟩/\aH [52] H 2 1 (Z ((d.take q).map f)) x) A
   ⟨A,by simp[af,ba,i],⟨_,by simp only[aj,aI,aV,aP];rfl,A⟩,_,by simp[aj,e],.inl ⟨A,A⟩⟩ ?_
  exact Z3
 .simp only[h,go_sem];refine bq 6 d.length (λq=>Fw.cK 77 [(0,.cp [I k,I v,.sl 1 (d.map λn=>[I n]),.sl 4 (Core.ae ks)]),(1,.sl 1 (Z now)),(4,.rf 4 0 0),(5,.rf 5 0 0)] λenv H n1 T=>(∃c4,H 4=E ⟨0,81,4,c4,aa⟩/\c4.length=4)/\∃x,H 5=E ⟨0,81,4,[I k,I v',x,a'],aa⟩/\aH [52] H 2 1 (Z ((d.take q).map f)) x) A
   ⟨A,by simp[af,ba,trivial],⟨_,by simp only[aj,aI,aV,aP];rfl,A⟩,_,by simp[aj,e],.inl ⟨A,A⟩⟩ ?_
  exact Z3
termination_by SizeOf.sizeOf c
decreasing_by exact hx
section
open Classical
def hB(l:bM)(m:Nat):IL:=qw (gQ l) l.length m
def jD(b:IL)(a:Int):Int:=et (λx=>decide (x=a)) b
def trimB(l:bM)(m:Nat):bM:=(hB l m).map λi=>(l.getD i.toNat (.mk 0 0 [] [])).aJ (jD (hB l m))
def Uk{a:IL}(g:a.Nodup)(b:Nat)(f:b<a.length):jD a a[b]=b:=by
 obtain⟨h,j,d,e⟩:=rV (JW (show a.any (λi=>decide (i=a[b]))=ad from k9.2 ⟨_,ax f,Zs⟩));have:h=b:=(List.getElem_inj g).1 (by simpa using e);rw[jD,d,this]
def EL(h:jV s1=ad):∀b:Int,0<=b->b<s1.length->∀d∈gQ s1 b,0<=d/\d<(s1.length:Int):=λb i j d a=>by
 obtain⟨e,rfl⟩:∃e:Nat,b=e:=⟨b.toNat,Zo⟩;have g:e<s1.length:=Zo;rw[EK e g,vm]at a;have f:=(wL h).2 _ (ax g);rcases a with a|a
 .cases a
 .exact⟨Ec _ (p3 f.1) d a,f.2 d a⟩
def S7(e:jV s1=ad)(a:a0∈hB s1 h)(f:s1[a0.toNat]?=E z5)(d:gs∈z5.cY):gs∈hB s1 h:=by
 rw[hB,tx]at a⊢;have b:gs∈gQ s1 a0:=by
  simp only[gQ,f];rw[vm];exact .inr d
 exact⟨EL e a0 a.1.1 a.1.2 gs b,a.2.last b⟩
def S6(a:h<s1.length):(h:Int)∈hB s1 h:=by rw[hB,tx];exact⟨⟨Zo,Zo⟩,.refl _⟩
variable {a3 g0:DL}
def Fz.AY(a:ny fd a3 g0):Fz fd (.tp a3) (.tp g0):=.tp _ _ a.len.symm λg b d e f=>a.zip (b,d) (hQ.2 ⟨g,by rw[List.getElem?_zip_eq_some];exact⟨e,f⟩⟩)
def Wz(a:bM)(j:Int)(an:∀c∈a,c.cA<=1000000000/\c.ok)(a3:a.length<=1000000):au 23 [.ag [Core.sl a],I j] (if hY a j=0 then .tp [.ag [Core.sl (trimB a j.toNat)],I (jD (hB a j.toNat) j),I 0]else .tp [.ag [Core.sl []],I 0,I (hY a j)]):=by
 have rO:=SR a j an a3;have aW:Cl (.cp [Core.sl a]):=Cl.eX cu;have ay:Core.sl a=.sl 4 (Core.ae a):=A;rw[ay]at rO aW⊢;by_cases c0:hY a j=0
 case neg=>
  have f0:(hY a j==0)=al:=by simp[c0]
  rw[av c0];refine Sp.s [] [.cell 4 40,.tmp 5,.tmp 6] func23 ntmps23 ?_;exact Hq
 rw[aM c0];have hb:jV a=ad:=by
  unfold hY at c0;split at c0
  .assumption
  .cases c0
 have bp:0<=j/\j<=(a.length:Int)-1:=by
  exact FT
 obtain⟨o,rfl⟩:∃o:Nat,j=o:=⟨j.toNat,Zo⟩;obtain⟨a4,C⟩:=wL hb;have R:=SU a (λc h=>⟨(an c h).2,by
  have:=Core.Ed c (p3 (C c h).1);have bc:=(C c h).1;simp only[Core.valid,b3,cO]at bc;omega⟩) a4 (EL hb) o Zo
 rw[ay]at R;rw[c0]at rO;simp only[sv];obtain⟨d,t⟩:=Zx (hB a o);have Q:d.Nodup:=by rw[<-t];exact sI (uF _)
 have B:∀b∈d,0<=b/\b<(a.length:Int):=λb i=>by rw[<-t,hB,tx]at i;exact i.1
 have bk:d.length<=a.length:=tB Q B;rw[show qw (gQ a) a.length o=d from t]at R;have aN:cy aB 38=E (81,4,64):=Zk;refine Sp.s [1000038] [.cell 4 40,.tmp 5,.tmp 6] func23 ntmps23 ?_;refine bw rO ?_;simp only[bne,go_sem];refine bO R ?_;refine⟨⟨Zo,Zo⟩,?_⟩;have aS:(List.replicate a.length [D.sc (Value.int IntKind.i64 0)]).flatten=(Z (List.replicate a.length 0)).flatten:=by simp[Z]
 refine bq 10 d.length (λe=>Fw.cK 64 [(1,I o),(2,.cp [.sl 4 (Core.ae a)]),(4,.rf 4 0 0),(8,.sl 1 (Z d)),(9,.ms 24 0 a.length)] λL r n J=>r 4=E ⟨0,40,1,[a'],aa⟩/\∃g:IL,g.length=a.length/\(∀l(h:l<d.length),l<e->g[(d[l]).toNat]?=E (l:Int))/\r 24=E ⟨0,2,1,(Z g).flatten,aa⟩) A
  ⟨A,by simp[af,ba],by simp[aj],List.replicate a.length 0,Zs,λl h M=>by omega,by simp only[bH,aS]⟩ ?_
 rintro e L r az J aE a7⟨w,g,G,U,P⟩;simp only[go_sem];refine aT (λh=>?_) λh=>?_
 .have aC:=bh h;have y:=oB d e aC;have a8:=B _ (ax aC);obtain⟨f,q⟩:∃f:Nat,d[e]=f:=⟨d[e].toNat,Zo⟩;rw[q]at y a8;have a2:((f:Int)<(a.length:Int))=True:=bP Zo;have bn:(Z g).flatten.length=a.length:=by rw[rq,bW,G]
  have a9:List.take f (Z g).flatten++[I e]++List.drop (f+1) (Z g).flatten=(Z (g.set f e)).flatten:=by
   rw[rq,rq,List.map_set,List.set_eq_take_append_cons_drop,aM (by rw[bW];omega)];simp
  simp only[y,P,a2,lc,a9,go_sem];refine⟨Zo,bg aC ⟨A,by simp[af],by simp[aj,w],g.set f e,by simp[G],λl h F=>?_,by simp[aj]⟩⟩;by_cases c:l=e
  .subst c;rw[q,sv,List.getElem?_set_self Zo]
  .have a6:d[l]≠d[e]:=λK=>c ((List.getElem_inj Q).1 K);have u:=B _ (ax h);rw[List.getElem?_set_ne (by rw[q]at a6;omega)];exact U l h Zo
 have V:=bS h;subst V;have aw:∀b∈d,(Z g)[b.toNat]?=E [I (jD d b)]/\g.getD b.toNat 0=jD d b:=λb i=>by
  obtain⟨l,F,rfl⟩:=dG i;have u:=U l F F;rw[Uk Q l F];exact⟨by rw[gF,u];rfl,by rw[sy,u];rfl⟩
 simp only[h,go_sem];refine GK.fe [24] 9 (.sl 1 (Z g)) (by simp only[af,aV,aP,bT,bU,aI,reduceCtorEq];exact Fz.rows (by simp only[bi,bG,aI];exact P) A A Zd (by rw[dD,G]) (jw _) A (pu _)) (nK _) λbe X=>?_;have aD:=(X 4 Zd).trans w;clear X w P U;refine GK.intro ?_;simp only[go_sem];have aX:∀f∈d,∃(b:Nat)(h:b<a.length),f=b/\a[b].aY=ad/\(a.getD f.toNat (.mk 0 0 [] [])).aJ (jD d)=a[b].aJ (λb=>g.getD b.toNat 0)/\∀p∈a[b].cY,p<(g.length:Int):=λf q=>by
  obtain⟨u,M⟩:=B f q;obtain⟨b,rfl⟩:∃b:Nat,f=b:=⟨f.toNat,Zo⟩;have i:b<a.length:=Zo;have aq:a[(b:Int).toNat]?=E a[b]:=by simp[i]
  refine⟨b,i,A,p3 (C _ (ax i)).1,?_,λp hx=>by rw[G];exact(C _ (ax i)).2 p hx⟩;rw[sy,aq];refine Core.L1 _ λp hx=>?_;have bd:p∈d:=by rw[<-t]at q⊢;exact S7 hb q aq hx
  exact(aw p bd).2.symm
 obtain⟨m,ap⟩:∃m:Int->Core,(λf:Int=>(a.getD f.toNat (.mk 0 0 [] [])).aJ (jD d))=m:=⟨_,A⟩;have a_:trimB a o=d.map m:=by rw[trimB,t,<-ap]
 have aZ:∀f∈d,∃(b:Nat)(h:b<a.length),f=b/\au 44 [.cp a[b].ds,.sl 1 (Z g)] (.ag (m f).ds):=λf q=>by
  obtain⟨b,i,K,u,M,aR⟩:=aX f q;refine⟨b,i,K,?_⟩;have:=KG a[b] g u aR;rw[<-M]at this;rw[<-ap];exact this
 rw[a_];refine bq 12 d.length (λe=>Fw.cK 64 [(1,I o),(2,.cp [.sl 4 (Core.ae a)]),(4,.rf 4 0 0),(8,.sl 1 (Z d)),(9,.sl 1 (Z g)),(11,.rf 11 (az 11) 0)] λL r n J=>r 4=E ⟨0,40,1,[a'],aa⟩/\∃p,r 11=E ⟨az 11,40,1,[p],aa⟩/\aH [57] r 81 4 (Core.ae ((d.take e).map m)) p) A
  ⟨A,by simp[af],by simp[aj,aD],_,by simp only[bH],.inl ⟨A,A⟩⟩ ?_
 clear aD;rintro e L r bs J aE a7⟨w,p,z,hx⟩;simp only[go_sem];refine aT (λh=>?_) λh=>?_
 .have aC:=bh h;have y:=oB d e aC;obtain⟨b,i,a0,W⟩:=aZ d[e] (ax aC);have aQ:=Core.bo a b i;have bm:=Core.cl a[b];have kw:Core.ae ((d.take (e+1)).map m)=Core.ae ((d.take e).map m)++[(m d[e]).ds]:=by rw[Core.bZ,Core.bZ,ch aC,bC,bC];rfl
  have ar:(Core.ae ((d.take e).map m)).length=e:=by rw[Core.bb];simp;omega
  rcases aU:m d[e]with⟨aG,aL,aF,aK⟩
  rw[aU]at W kw;rw[a0]at y;simp only[Core.ds]at W kw;have bl:((b:Int)<(a.length:Int))=True:=bP Zo;simp only[go_sem];refine cX [11] [] ?_;simp only[y,aQ,z,ic,go_sem];refine bw W ?_;simp only[z,go_sem];refine iO (S:=[57]) (rows:=Core.ae ((d.take e).map m)) (bx:=[[I aG,I aL,ints aF,.sl 4 (Core.ae aK)]]) Zs aN (by simp only[af,aI,aV,aP,bT,bU,reduceCtorEq];exact hx.congr bJ) (Core.ea _) (by simp[af,cF,aj,ints]) Zs A (by rw[ar];show(e+1)*64<=_;omega) (by rw[ar];show e+1<=ao;unfold ao;omega) (by show 57<64;decide) ?_;intro bf bt bv gb am;obtain⟨bj,rfl,-⟩:=fG gb Zs;have ak:=am 11 Zd Zd;have mP:=am 4 Zd Zd;simp only[bV,dP,aP,dz,w,z]at ak mP;simp only[ak,go_sem];exact Hw
 have V:=bS h;subst V;rw[b9]at hx;have a5:(o:Int)∈d:=by rw[<-t];exact S6 Zo
 have ab:=(aw o a5).1;rw[sv]at ab;have br:=bP Zo;simp only[h,go_sem];have JQ:=n3 hx;refine me (.bE [0,1,2,3] 4 (.fin [5,6,7]) 5 (.fin [4,6,7])) [11] [] ?_;simp only[w,z,ab,t,go_sem];exact Hk
def HU(i:Core->Bool)(f:bK)(d:DL)(m:∀b∈d,Cl b)(q:∀j:Core,j.ok->au f ([.ag j.ds]++d) (B (i j)))(a:Core)(h:a.ok):au 212 [.ag a.ds,.fn f [] d] (B (a.oD i)):=by
 match a,h with
 |.mk l v b g,h=>
 have F:=h;simp only[Core.ok]at h;have y:Core.ds (.mk l v b g)=[I l,I v,ints b,.sl 4 (Core.ae g)]:=by rw[Core.ds]
 have C:Cl (.fn f [] d):=Cl.qu Zs m;have u:∀b∈[D.cp [.fn f [] d]],Cl b:=by simp only[bG,dT];exact Cl.eX (by simp only[bG,dT];exact C)
 have z:∀j∈g,au 263 ([]++[.ag j.ds]++[.cp [.fn f [] d]]) (B (j.oD i)):=λa t=>by
  have J:=HU i f d m q a (Core.dW h.2.2 a t);simp only[a8,bf];have w:=Core.b1 a;have G:List.take 4 a.ds=a.ds:=cU Zo;have K:(a.ds).all b4=ad:=by rw[b6];exact Core.one a
  refine Sp.e [] [.tmp 3] func263 ntmps263 ?_;simp only[w,G,go_sem];refine bO J ?_;exact Fz.bool A
 have o:=q (.mk l v b g) F;have p:=Core.cl (.mk l v b g);rw[y]at o p;refine Sp.s [] [.tmp 4] func212 ntmps212 ?_;refine bB _ o (by simp only[a8,bf,a7];exact⟨Cl.bu p,m⟩) ?_;cases r:i (.mk l v b g)
 .simp only[go_sem];refine bO (IN g (Core.oD i) _ [] [.cp [.fn f [] d]] h.2.1 Zs u z) ?_;exact Fz.bool (by rw[Core.oD,r,Core.BW];rfl)
 .simp only[go_sem];exact Fz.bool (by rw[Core.oD,r];rfl)
termination_by a
decreasing_by all_goals(have:=cH t;simp;omega)
def qI(n:Int):Core->Bool
 |.mk k v d _=>(decide (k=11)&&decide (v>=n))||d.any λx=>decide (x>=n)
def HX(b:Int):∀a:Core,a.oD (qI b)=!kX b a
 |.mk m v i h=>by
  have o:∀a∈h,a.oD (qI b)=!kX b a:=λa e=>HX b a;rw[Core.oD,Core.BW];have p:kX b (.mk m v i h)=(!(decide (m=11)&&decide (v>=b))&&(i.all λf=>decide (f<b))&&(h.all λa=>kX b a)):=by
   rw[nk];simp only[vz,Core.cY,cg,Core.Eb,b3,oo,ud,fZ,b6,cO];constructor
   .intro g;refine⟨⟨?_,λf u=>g f (.inl (.inr u))⟩,λa e j d=>g j (.inr ⟨a,e,d⟩)⟩;by_cases l:m=11
    .have:=g v (.inl (.inl (by simp[l])));exact .inr Zo
    .exact .inl l
   .rintro⟨⟨k,s⟩,t⟩j((d|d)|⟨a,e,d⟩)
    .split at d
     .rename_i l;simp only[bG]at d;subst d;rcases k with k|k
      .exact absurd l k
      .omega
     .cases d
    .exact s j d
    .exact t a e j d
  have q:(h.any (Core.oD (qI b)))=!h.all λa=>kX b a:=by
   rw[List.not_all_eq_any_not];rw[nk];simp only[k9];exact⟨λ⟨a,e,g⟩=>⟨a,e,by rw[<-o a e];exact g⟩,λ⟨a,e,g⟩=>⟨a,e,by rw[o a e];exact g⟩⟩
  have r:(i.any λf=>decide (f>=b))=!i.all λf=>decide (f<b):=by
   rw[List.not_all_eq_any_not];congr 1;funext f;exact zv
  rw[p,q,qI,r];cases(decide (m=11)&&decide (v>=b))<;>cases(i.all λf=>decide (f<b))<;>cases(h.all λa=>kX b a)<;>rfl
def Tv(a b:Int):au 214 [I b,.cp [I a]] (B (decide (b>=a))):=by
 refine Sp.s [] [.tmp 3] func214 ntmps214 ?_;exact Fz.bool A
def Tu(a:Int)(d:Core)(j:d.ok):au 213 [.ag d.ds,.cp [I a]] (B (qI a d)):=by
 obtain⟨h,v,e,o⟩:=d;simp only[Core.ok]at j;have l:∀e∈[D.cp [I a]],Cl e:=by simp only[bG,dT];exact Cl.eX (by simp only[bG,dT];exact aO _)
 have g:=Cm e (λi=>decide (i>=a)) 214 [] [.cp [I a]] j.1 Zs l (λi _=>by simpa using Tv a i);simp only[ints]at g;have m:=lk e;refine Sp.s [] [.tmp 3] func213 ntmps213 ?_;by_cases b:h=11
 .have f1:(h==11)=ad:=by simp[b]
  by_cases f:v>=a
  .simp only[f1,bD f,go_sem];exact Fz.bool (by simp[qI,b,f])
  .simp only[f1,bj f,go_sem];refine bO g ?_;exact Fz.bool (by simp[qI,b,bj f])
 .have f1:(h==11)=al:=by simp[b]
  simp only[f1,go_sem];refine bO g ?_;exact Fz.bool (by simp[qI,b])
def Tw(b:Int)(a:Core)(i:a.ok):au 152 [.ag a.ds,I b] (B (kX b a)):=by
 have g:∀f∈[D.cp [I b]],Cl f:=by simp only[bG,dT];exact Cl.eX (by simp only[bG,dT];exact aO _)
 have d:=HU (qI b) 213 [.cp [I b]] g (λm l=>Tu b m l) a i;rw[HX]at d;have h:=Core.b1 a;have j:List.take 4 a.ds=a.ds:=cU Zo;have o:(a.ds).all b4=ad:=by rw[b6];exact Core.one a
 refine Sp.e [] [.tmp 4] func152 ntmps152 ?_;simp only[h,j,go_sem];refine bO d ?_;exact Fz.bool Zs
def uG(l:bM)(c:Core):Bool:=!((c.valid&&!c.jJ 0)&&kX (l.length:Int) c)
def Ou(b:bM)(l:b.length<=1000000)(a:Core)(d:a.cA<=1000000000/\a.ok):au 150 [.ag a.ds,.cp [Core.sl b]] (B (uG b a)):=by
 have i:=isClosed a d.1 d.2;have f:=Core.b1 a;have g:List.take 4 a.ds=a.ds:=cU Zo;have m:(a.ds).all b4=ad:=by rw[b6];exact Core.one a
 have j:=Core.cl a;refine Sp.e [] [.tmp 3] func150 ntmps150 ?_;simp only[f,g,go_sem];refine bw i ?_;cases h:(a.valid&&!a.jJ 0)
 .simp only[go_sem];exact Fz.bool (by simp[uG,h])
 simp only[f,g,Core.bb b,go_sem];refine bO (Tw (b.length:Int) a d.2) ?_;exact Fz.bool (by simp[uG,h])
def W6(a:bM)(o:∀b∈a,b.cA<=1000000000/\b.ok)(q:a.length<=1000000):au 95 [.ag [Core.sl a]] (B (jV a)):=by
 have j:=Core.bb a;have h:∀l∈[D.cp [Core.sl a]],Cl l:=by simp only[bG,dT];exact Cl.eX (by simp only[bG,dT];exact Core.cI a)
 have i:=IN a (uG a) 150 [] [.cp [Core.sl a]] iM Zs h (λb m=>by simpa using Ou a q b (o b m));have r:Core.sl a=.sl 4 (Core.ae a):=A;have p:=Core.cI a;have d:(decide (1<=a.length/\a.length<=24)&&!a.any (uG a))=jV a:=by
  rw[jV,List.not_any_eq_all_not];congr 1;congr 1;funext b;simp[uG]
 rw[r]at i h p⊢;refine Sp.e [] [.tmp 2] func95 ntmps95 ?_;simp only[j,go_sem];by_cases f:(a.length:Int)<1
 .simp only[bD f,go_sem];exact Fz.bool (by rw[<-d,bj Zo,mF])
 simp only[bj f,j,go_sem];by_cases g:(a.length:Int)>24
 .simp only[bD g,go_sem];exact Fz.bool (by rw[<-d,bj Zo,mF])
 simp only[bj g,go_sem];refine bO i ?_;exact Fz.bool (by rw[<-d,bD Zo,hN])
def Tt(b a:Int):au 154 [I a,.cp [I b]] (B (!a1 a 0 b)):=by
 refine Sp.s [] [.tmp 3] func154 ntmps154 ?_;by_cases h1:a<0
 .exact yr
 .simp only[bj h1,go_sem];by_cases d:a>b
  .simp only[bD d,go_sem];exact Fz.bool (by simp[a1];omega)
  .simp only[bj d,go_sem];exact Fz.bool (by simp[a1];omega)
def N6(a:Int)(d:IL)(h:d.length<=ao):au 96 [I a,.sl 1 (Z d)] (B (d.all λb=>a1 b 0 a)):=by
 have g:∀f∈[D.cp [I a]],Cl f:=by simp only[bG,dT];exact Cl.eX (by simp only[bG,dT];exact aO _)
 have e:=Cm d (λb=>!a1 b 0 a) 154 [] [.cp [I a]] h Zs g (λb _=>by simpa using Tt a b);simp only[ints]at e;refine Sp.s [] [.tmp 4] func96 ntmps96 ?_;refine bO e ?_;exact Fz.bool (by rw[List.not_any_eq_all_not];simp)
def QM(a:bM)(b:Int)(i:∀e∈a,e.cA<=1000000000/\e.ok)(l:a.length<=1000000):au 53 [.ag [Core.sl a],I b] (I (hY a b)):=by
 have m:Core.sl a=.sl 4 (Core.ae a):=A;have h:=W6 a i l;have j:=Core.cI a;have g:=N6 ((a.length:Int)-1) [b] (by unfold ao;simp);have o:IntKind.i64.wrap ((a.length:Int)-1)=(a.length:Int)-1:=cW _ Zo;rw[m]at h j⊢;simp only[List.all_cons,List.all_nil,ue]at g;refine Sp.s [] [.tmp 4] func53 ntmps53 ?_;refine bw h ?_;cases d:jV a
 .simp only[go_sem];exact Fz.int (by simp[hY,d])
 simp only[o,go_sem];refine fm [15] g (.c (.cl _ (aO _)) (.c (Fz.rows (ob:=⟨_,2,1,[I b],aa⟩) (by simp only[bi,bG,aI,bH]) A A Zd A Zs A (by simp only[bG,dT,bp,cB];exact aO _)) .n)) (aO _) ?_;cases f:a1 b 0 ((a.length:Int)-1)
 .simp only[go_sem];exact Fz.int (by simp[hY,d,f])
 .simp only[go_sem];exact Fz.int (by simp[hY,d,f])
def Ld(g:Core)(a:IL)(Q:g.aY=ad)(d:a.length+g.cY.length<=1000000):ib aB 155 [.ag g.ds] [] 2 1 (Z a) (Z (a++g.cY)):=by
 have G:∀e:Core,SizeOf.sizeOf e<SizeOf.sizeOf g->∀a,e.aY=ad->a.length+e.cY.length<=1000000->ib aB 155 [.ag e.ds] [] 2 1 (Z a) (Z (a++e.cY)):=λe hx a L M=>Ld e a L M;obtain⟨k,v,b,ks⟩:=g;obtain⟨-,ab,ah,D⟩:=pL Q;have t:cy aB 79=E (2,1,8):=Zk;have C:Z b=[]->b=[]:=λq=>by simpa[Z]using q
 obtain⟨p,F⟩:∃p,(if k=11 then[v]else[])=p:=⟨_,A⟩;have U:(Core.mk k v b ks).cY=p++b++Core.eB ks:=by rw[Core.cY,F]
 rw[U]at d⊢;simp only[bF]at d;have O:((k==11)=ad/\p=[v])\/((k==11)=al/\p=[]):=by
  rw[<-F];by_cases h:k=11<;>simp[h]
 refine ib.Av [1000014,1000018] [.tmp 4] func155 A Zk ntmps155 A Zs ?_ ?_ ?_
 .exact sO _
 .exact sO _
 intro e f ai hx;have hx:aH [1] f 2 1 (Z a) e:=hx;simp only[go_sem];rcases O with⟨h,rfl⟩|⟨h,rfl⟩
 .simp only[h,go_sem];refine GK.intro (dS.eF (S:=[1]) (rows:=Z a) (bx:=Z [v]) t (by simp only[af,aI,aV,aP];exact hx.congr bJ) (jw _) ga Zs A (by rw[dD,dD];simp at d⊢;omega) (by rw[dD,dD];unfold ao;simp at d⊢;omega) λY r ak x P=>?_);rw[<-nC]at x;simp only[go_sem];have o:=x.sub (S':=[1,14]) Zs;clear hx x P;refine GK.uE (S:=[1,14]) (rows:=Z (a++[v])) (bx:=Z b) Zd t (by simp only[af,aI,aV,aP];exact o) (jw _) (by simp[af,cF]) (λq=>by simp[af,C q]) nD (by rw[dD,dD];simp at d⊢;omega) (by rw[dD,dD];unfold ao;simp at d⊢;omega) λJ W X u l j w=>?_;rw[<-nC]at j;have B:u 2=.cp [I k,I v,.sl 1 (b.map λz=>[I z]),.sl 4 (Core.ae ks)]:=(l 2 Zd).trans iN;clear l o w;simp only[B,go_sem];refine bq 22 ks.length (λq=>Fw.cK 31 [(20,.sl 4 (Core.ae ks)),(21,I ks.length)] λi f r s=>aH [1,14,18,28] f 2 1 (Z (a++[v]++b++Core.eB (ks.take q))) (i 1)) A
   ⟨A,by simp[af],by simpa[af,Core.eB]using j.sub Zs⟩ ?_
  clear j;rintro q i f r s K R hx;obtain⟨y,e1⟩:=Zx (i 1);rw[e1]at hx;simp only[go_sem];refine aT (λh=>?_) λh=>?_
  .have aC:=bh h;have g0:=Core.bo ks q aC;have m:=ax aC;have ht:=Core.AM ks q aC;have V:(Core.eB (ks.take q)).length+ks[q].cY.length<=(Core.eB ks).length:=by
    exact HE
   have mn:=G ks[q] (by have:=cH m;simp;omega) (a++[v]++b++Core.eB (ks.take q)) (D _ m) (by simp only[bF,di,gG]at d⊢;omega);exact GI
  exact Hv
 .simp only[h,go_sem];have o:=hx.sub (S':=[1,14]) Zs;clear hx;refine GK.uE (S:=[1,14]) (rows:=Z (a)) (bx:=Z b) Zd t (by simp only[af,aI,aV,aP];exact o) (jw _) (by simp[af,cF]) (λq=>by simp[af,C q]) nD (by rw[dD,dD];simp at d⊢;omega) (by rw[dD,dD];unfold ao;simp at d⊢;omega) λJ W X u l j w=>?_;rw[<-nC]at j;have B:u 2=.cp [I k,I v,.sl 1 (b.map λz=>[I z]),.sl 4 (Core.ae ks)]:=(l 2 Zd).trans iN;clear l o w;simp only[B,go_sem];refine bq 22 ks.length (λq=>Fw.cK 31 [(20,.sl 4 (Core.ae ks)),(21,I ks.length)] λi f r s=>aH [1,14,18,28] f 2 1 (Z (a++b++Core.eB (ks.take q))) (i 1)) A
   ⟨A,by simp[af],by simpa[af,Core.eB]using j.sub Zs⟩ ?_
  clear j;rintro q i f r s K R hx;obtain⟨y,e1⟩:=Zx (i 1);rw[e1]at hx;simp only[go_sem];refine aT (λh=>?_) λh=>?_
  .have aC:=bh h;have g0:=Core.bo ks q aC;have m:=ax aC;have ht:=Core.AM ks q aC;have V:(Core.eB (ks.take q)).length+ks[q].cY.length<=(Core.eB ks).length:=by
    exact HE
   have mn:=G ks[q] (by have:=cH m;simp;omega) (a++b++Core.eB (ks.take q)) (D _ m) (by simp only[bF,gG]at d⊢;omega);exact GI
  exact Hv
termination_by SizeOf.sizeOf g
decreasing_by exact hx
def Pf(a:IL)(h:a≠[])(i:a.length<=100000000):gp aB 88 [.sl 1 (Z a)] 2 1 (Z a):=by
 cases a with
 |nil=>exact absurd A h
 |cons b a=>
  have f:=all_map I (λ_=>A) (b::a);simp only[di]at i;have j:=dC I (b::a);have e:=cI.1 (lk (b::a));simp only[aq,bp,di]at f j e⊢;refine gp.eo [] [.tmp 2] func88 A Zk ntmps88 A Zs ?_ ?_
  .intro g d;obtain⟨l,k,d⟩:=ft.1 d;exact e l k g d
  simp only[f,go_sem];exact⟨⟨Zo,by unfold ao;omega⟩,.inr ⟨7,⟨0,2,1,_,aa⟩,Zs,A,A,A,⟨[],Zs⟩,A⟩⟩
def p2(l:bM)(i:Int):IL:=match l[i.toNat]? with|some c=>Lib.compact (mD c.cY)|none=>[]
def DM:gs∈p2 s1 a0↔gs∈gQ s1 a0:=by
 cases a:s1[a0.toNat]? with
 |some b=>simp only[p2,gQ,a];rw[Po,(tU _).mem_iff,vm];simp
 |none=>simp only[p2,gQ,a]
def W5(a:bM)(d:Int)(K:0<=d)(L:d<(a.length:Int))(j:∀g∈a,g.aY=ad/\g.cY.length<=1000000):au 97 [.ag [Core.sl a],I d] (.sl 1 (Z (p2 a d))):=by
 obtain⟨b,rfl⟩:∃b:Nat,d=b:=⟨d.toNat,Zo⟩;have k:b<a.length:=Zo;have w:Core.sl a=.sl 4 (Core.ae a):=A;have h:=Core.bo a b k;have l:=ax k;have y:p2 a b=Lib.compact (mD a[b].cY):=by simp[p2,k]
 have f:=Ld a[b] [] (j _ l).1 (by simpa using(j _ l).2);have m:=Mt a[b].cY (j _ l).2;have i:=IH (mD a[b].cY);have s:=Core.cl a[b];have t:=Core.one a[b];rw[y,w];rw[a8]at f;generalize a[b]=g at h f m i s t;obtain⟨p,r,o,q⟩:=g;obtain⟨J,u⟩:=Zx ((Core.mk p r o q).cY);rw[u]at f m i⊢;simp only[Core.ds]at h f s t;refine Sp.e [] [.tmp 4] func97 ntmps97 ?_;simp only[h,Core.bb a,bP Zo,go_sem];refine qj [] [.ag [I p,I r,ints o,.sl 4 (Core.ae q)]] [] _ 2 1 _ _ f A (.inl ⟨A,A⟩) cu ?_;intro D R U z M;simp only[go_sem];refine It [11] [] _ 2 1 _ _ _ m A z Zs ?_;intro F B P;simp only[go_sem];refine qj [11] [] [] _ 2 1 _ _ i A B Zs ?_;intro G S V C Q;simp only[go_sem];exact C.fz Zd (jw _) (pu _)
def yl(u:Int->IL)(n:Nat)(k:Int)(b:IL):Prop:=b.Nodup/\k∈b/\∀a∈b,(0<=a/\a<(n:Int))/\kN u k a
def Vh(a:IL)(b:Z a=[]):a=[]:=by simpa[Z]using b
def UB(b:bM)(m:Nat)(z:jV b=ad)(bF:m<b.length):au 54 [.ag [Core.sl b],.sl 1 (Z [(m:Int)])] (.sl 1 (Z (hB b m))):=by
 obtain⟨a4,ab⟩:=wL z;have av:∀q∈b,q.aY=ad/\q.cY.length<=1000000:=λq e=>⟨p3 (ab q e).1,by
  have:=Core.Ed q (p3 (ab q e).1);have bb:=(ab q e).1;simp only[Core.valid,b3,cO]at bb;omega⟩
 have a':Core.sl b=.sl 4 (Core.ae b):=A;have aD:=λh X aS=>W5 b h X aS av;have aX:Cl (.ag [Core.sl b]):=Cl.bu (by simp only[bG,dT];exact Core.cI b);have a0:=Pf [(m:Int)] Zs Zs;have aM:cy aB 79=E (2,1,8):=Zk;have aw:∀a,yl (gQ b) b.length m a->a.length<=24:=λa e=>fY (tB e.1 λh d=>(e.2.2 h d).1) a4.2;have ba:=EL z;rw[a']at aD aX⊢;rw[hB];refine Sp.s [1000035] [.tmp 4] func54 ntmps54 ?_;refine yP 2 1 _ a0 (by simp only[a8,c_,bG,dT];exact nK [(m:Int)]) ?_;intro bn bK bV bd bw;obtain⟨aQ,rfl,aU⟩:=fG bd Zs;simp only[go_sem];refine mW (λt=>t.nt=41/\∃(f:Nat)(a:IL)(u:D),t.env 6=I f/\t.env 2=.cp [.sl 4 (Core.ae b)]/\t.env 5=u/\aH [10,35] t.H 2 1 (Z a) u/\f<=a.length/\yl (gQ b) b.length m a/\∀h∈a.take f,∀i∈gQ b h,i∈a)
  (λt=>match t.env 6 with|.sc (.int _ aJ)=>24-aJ.toNat|_=>0) ⟨A,0,[(m:Int)],_,by simp[af],by simp[af],by simp[af];rfl,.inr ⟨10,aQ,Zs,Zs,by simpa using aU⟩,Zs,⟨Zs,Zs,λh d=>by simp at d;subst d;exact⟨Zo,.refl _⟩⟩,Zs⟩ ?_
 rintro⟨aq,R,bi,bO,aL⟩⟨rfl,f,a,u,J,V,w,aF,bB,p,ak⟩;simp only at J V w aF;have bH:=aw a p;have bI:u=u:=A;rcases aF with⟨X,-⟩|⟨ap,W,ay,rfl,K⟩
 .have:a=[]:=Vh a X;subst this;exact absurd p.2.1 Zs
 simp only[J,w,go_sem];refine aT (λe=>?_) λe=>?_
 .have an:=bh e;have a5:a[f]∈a:=ax an;obtain⟨L,a9⟩:=p.2.2 _ a5;have az:=aD a[f] L.1 L.2;have aC:∀i∈p2 b a[f],0<=i/\i<(b.length:Int):=λi j=>ba _ L.1 L.2 i (DM.1 j);have a_:(p2 b a[f]).length<=1000000:=by
   obtain⟨G,bc⟩:∃G:Nat,a[f]=G:=⟨a[f].toNat,Zo⟩;rw[bc];have aE:G<b.length:=Zo;have:=II (mD b[G].cY);have bs:=(tU b[G].cY).length_eq;have bt:=(av _ (ax aE)).2;simp only[p2,sv,bR aE];omega
  have aW:aH [10,35] R 2 1 (Z (a++[])) (.ms ap W a.length):=by rw[c_];exact .inr ⟨ap,W,ay,by rw[dD],K⟩
  obtain⟨g,M⟩:∃g,g=p2 b a[f]:=⟨_,A⟩;rw[<-M]at a_;rw[<-M]at az aC;have a2:((f:Int)<(a.length:Int))=True:=bP Zo;have aZ:(Z a).flatten[f]?=E (I a[f]):=by rw[rq];simp[an]
  simp only[e,go_sem];refine b7 ?_;simp only[J,V,w,K,a2,aZ,List.head?_drop,lc,go_sem];refine iP az ?_;refine bq 24 g.length (λl=>Fw.cK 41 [(2,.cp [.sl 4 (Core.ae b)]),(6,I f),(22,.sl 1 (Z g)),(23,I g.length)] λaq R aJ aL=>∃U:IL,aH [10,35] R 2 1 (Z (a++U)) (aq 5)/\yl (gQ b) b.length m (a++U)/\∀i∈g.take l,i∈a++U) A
   ⟨A,by simp[af,V,J],⟨[],by simpa[af,w]using aW,by simpa using p,Zs⟩⟩ ?_
  rintro l aN bo bL T2 _ bC⟨o,F,y,P⟩;obtain⟨u,C⟩:=Zx (aN 5);rw[C]at F;have aG:=aw _ y;simp only[go_sem];refine aT (λe=>?_) λe=>?_
  .have r:=bh e;have aR:=oB g l r;obtain⟨bk,bl⟩:=aC g[l] (ax r);have bm:kN (gQ b) m g[l]:=a9.last (DM.1 (M▸ax r));simp only[e,C,aR,go_sem];refine sN [.sl 1 (Z (a++o)),I g[l]] _ (Py (a++o) g[l] Zo) A (by simp only[a8,c_,ot,ou,a7];exact⟨F.fz Zd (jw _) (pu _),.cl _ (aO _),Zs⟩) A ?_;by_cases Q:g[l]∈a++o
   .simp only[bD Q,go_sem];refine bg r ⟨A,by simp[af],⟨o,by simpa[af,C]using F,y,?_⟩⟩;intro i j;rw[ch r,cg,bG]at j;rcases j with j|rfl
    .exact P i j
    .exact Q
   .simp only[bj Q,C,go_sem];have a6:(a++o++[g[l]]).Nodup:=by
     rw[gR];exact⟨y.1,Zs,λh d br z=>by simp at z;subst z;rintro rfl;exact Q d⟩
    have bf:yl (gQ b) b.length m (a++o++[g[l]]):=⟨a6,eE _ y.2.1,λh d=>by
     rcases cg.1 d with d|d
     .exact y.2.2 h d
     .simp at d;subst d;exact⟨⟨bk,bl⟩,bm⟩⟩
    refine GK.intro (dS.eF (S:=[10,35]) (rows:=Z (a++o)) (bx:=Z [g[l]]) aM (by simp only[af,aI,aV,aP,bT,bU,reduceCtorEq];exact F.congr bJ) (jw _) ga Zs nD (by rw[dD,dD];simp at aG⊢;omega) (by rw[dD,dD];unfold ao;simp at aG⊢;omega) λaK bi bQ B K=>?_);simp only[go_sem];refine bg r ⟨A,by simp[af],⟨o++[g[l]],?_,?_,?_⟩⟩
    .rw[<-nC,dM]at B;simpa[af]using B.sub (S':=[10,35]) Zs
    .rw[<-dM];exact bf
    .intro i j;rw[<-dM];rw[ch r,cg,bG]at j;rcases j with j|rfl
     .exact eE _ (P i j)
     .simp
  .have a3:=bS e;subst a3;rw[b9]at P;simp only[e,go_sem];refine⟨⟨A,f+1,a++o,u,by simp[af,iX f Zo],by simp[af],by simp[af,C],F,by simp;omega,y,?_⟩,?_⟩
   .intro h d i j;rw[List.take_append_of_le_length Zo,ch an,cg,bG]at d;rcases d with d|rfl
    .exact eE _ (ak h d i j)
    .exact P i (M▸DM.2 j)
   .simp[af,iX f Zo];omega
 .have a1:=bS e;subst a1;rw[b9]at ak;have am:mD a=qw (gQ b) b.length m:=Vk p.1 (uF _) (HN p.2.1 (λh d=>(p.2.2 h d).1) (λh d=>(p.2.2 h d).2) ak);simp only[e,w,go_sem];refine It [10,35] [] _ 2 1 _ _ _ (Mt a Zo) A (.inr ⟨ap,W,ay,by rw[bW],K⟩) Zs ?_;intro aK B bv;simp only[w,go_sem];have ar:=IH (mD a);rw[Pp _ (by rw[am];exact uF _),am]at ar;rw[am]at B;refine qj [10,35] [] [] _ 2 1 _ _ ar A B Zs ?_;intro bp bN bX be bz;simp only[go_sem];exact be.fz Zd (jw _) (pu _)
def L4(c:Core)(live:IL)(l:c.aY=ad)(m:live.length<=1000000):au 55 [.ag c.ds,.sl 1 (Z live)] (.ag (c.aJ (jD live)).ds):=by
 have ih:∀x:Core,SizeOf.sizeOf x<SizeOf.sizeOf c->x.aY=ad->au 55 [.ag x.ds,.sl 1 (Z live)] (.ag (x.aJ (jD live)).ds):=λx hx h=>L4 x live h m;have C':∀a,au 56 [.sl 1 (Z live),I a] (I (jD live a)):=λa=>Dj live a Zo;obtain⟨f,j⟩:∃f:Int->Int,jD live=f:=⟨_,A⟩;rw[j]at ih C'⊢;obtain⟨k,v,d,ks⟩:=c;have CB:cy aB 38=E (81,4,64):=Zk;have CC:cy aB 79=E (2,1,8):=Zk;obtain⟨-,o,p,te⟩:=pL l;have iR:=Core.bb ks;have g:(d.map λn=>[I n]).length=d.length:=Zs;rw[Core.aJ,Core.xT];obtain⟨v',e⟩:∃v',(if k=11 then f v else v)=v':=⟨_,A⟩;rw[e];have i:((k==11)=ad/\v'=f v)\/((k==11)=al/\v'=v):=by
  rw[<-e];by_cases h:k=11<;>simp[h]
 refine Sp.s [] [.cell 4 81] func55 ntmps55 ?_;rcases i with⟨h,h2⟩|⟨h,h2⟩
 .simp only[h,go_sem];refine bw (C' v) ?_;simp only[g,go_sem];exact Z2
 .simp only[h,g,go_sem];exact Z2
termination_by SizeOf.sizeOf c
decreasing_by exact hx
def Wy(a:bM)(e:Int)(ab:∀c∈a,c.cA<=1000000000/\c.ok)(ar:a.length<=1000000):au 30 [.ag [Core.sl a],I e] (if hY a e=0 then .tp [.ag [Core.sl (trimB a e.toNat)],I (jD (hB a e.toNat) e),I 0]else .tp [.ag [Core.sl []],I 0,I (hY a e)]):=by
 have rO:=QM a e ab ar;have C:Cl (.ag [Core.sl a]):=Cl.bu (by simp only[bG,dT];exact Core.cI a);have J:Core.sl a=.sl 4 (Core.ae a):=A;rw[J]at rO C⊢;by_cases c0:hY a e=0
 case neg=>
  have f0:(hY a e==0)=al:=by simp[c0]
  rw[av c0];refine Sp.s [] [.cell 4 40,.tmp 5,.tmp 6] func30 ntmps30 ?_;exact Hq
 rw[aM c0];have hb:jV a=ad:=by
  unfold hY at c0;split at c0
  .assumption
  .cases c0
 have aU:0<=e/\e<=(a.length:Int)-1:=by
  exact FT
 obtain⟨g,rfl⟩:∃g:Nat,e=g:=⟨e.toNat,Zo⟩;obtain⟨aS,X⟩:=wL hb;have t:=UB a g hb Zo;rw[J]at t;rw[c0]at rO;simp only[sv];have ay:trimB a g=(hB a g).map λj=>(a.getD j.toNat (.mk 0 0 [] [])).aJ (jD (hB a g)):=A;rw[ay];have r:∀d∈hB a g,0<=d/\d<(a.length:Int):=λd l=>by rw[hB,tx]at l;exact l.1
 have W:(hB a g).length<=a.length:=tB (sI (uF _)) r;generalize hB a g=b at t r W;have aq:=Dj b (g:Int) Zo;obtain⟨i,F⟩:∃i:Int->Core,(λj:Int=>(a.getD j.toNat (.mk 0 0 [] [])).aJ (jD b))=i:=⟨_,A⟩;rw[F];have am:∀j∈b,∃(d:Nat)(h:d<a.length),j=d/\au 55 [.ag a[d].ds,.sl 1 (Z b)] (.ag (i j).ds):=λj an=>by
  obtain⟨aL,aQ⟩:=r j an;obtain⟨d,rfl⟩:∃d:Nat,j=d:=⟨j.toNat,Zo⟩;have l:d<a.length:=Zo;refine⟨d,l,A,?_⟩;have:=L4 a[d] b (p3 (X _ (ax l)).1) Zo;rw[<-F];simpa[List.getD,l]using this
 have U:cy aB 38=E (81,4,64):=Zk;refine Sp.s [] [.cell 4 40,.tmp 5,.tmp 6] func30 ntmps30 ?_;refine bw rO ?_;simp only[bne,go_sem];refine fm [21] t (.c (.cl _ C) (.c (Fz.rows (ob:=⟨_,2,1,[I g],aa⟩) (by simp only[bi,bG,aI,bH]) A A Zd A Zs A (by simp only[bG,dT,bp,cB];exact aO _)) .n)) (nK _) ?_;simp only[go_sem];refine bq 25 b.length (λf=>Fw.cK 46 [(1,I g),(2,.cp [.sl 4 (Core.ae a)]),(4,.rf 4 0 0),(8,.sl 1 (Z b)),(9,.rf 9 0 0),(23,.sl 1 (Z b)),(24,I b.length)] λV m n K=>m 4=E ⟨0,40,1,[a'],aa⟩/\∃u,m 9=E ⟨0,40,1,[u],aa⟩/\aH [39] m 81 4 (Core.ae ((b.take f).map i)) u) A
  ⟨A,by simp[af,ba],by simp[aj,aN],_,by simp only[bH],.inl ⟨A,A⟩⟩ ?_
 rintro f V m aX K aD aW⟨y,u,o,hx⟩;simp only[go_sem];refine aT (λh=>?_) λh=>?_
 .have aC:=bh h;have w:=oB b f aC;obtain⟨d,l,ap,p⟩:=am b[f] (ax aC);have q:=Core.bo a d l;have D:=Core.cl a[d];have kw:Core.ae ((b.take (f+1)).map i)=Core.ae ((b.take f).map i)++[(i b[f]).ds]:=by rw[Core.bZ,Core.bZ,ch aC,bC,bC];rfl
  have G:(Core.ae ((b.take f).map i)).length=f:=by rw[Core.bb];simp;omega
  rcases ak:i b[f]with⟨P,R,M,Q⟩
  rw[ak]at p kw;rw[ap]at w;generalize a[d]=L at q D p;obtain⟨aE,aG,bd,aF⟩:=L;simp only[Core.ds]at p kw q D;have aR:((d:Int)<(a.length:Int))=True:=bP Zo;simp only[w,go_sem];refine cX [9] [] ?_;simp only[q,o,ic,go_sem];refine bw p ?_;simp only[o,go_sem];refine iO (S:=[39]) (rows:=Core.ae ((b.take f).map i)) (bx:=[[I P,I R,ints M,.sl 4 (Core.ae Q)]]) Zs U (by simp only[af,aI,aV,aP,bT,bU,reduceCtorEq];exact hx.congr bJ) (Core.ea _) (by simp[af,cF,aj,ints]) Zs A (by rw[G];show(f+1)*64<=_;omega) (by rw[G];show f+1<=ao;unfold ao;omega) (by show 39<46;decide) ?_;intro az aY aZ gb B;obtain⟨aK,rfl,-⟩:=fG gb Zs;have z:=B 9 Zd Zd;have mP:=B 4 Zd Zd;simp only[bV,dP,aP,dz,y,o]at z mP;simp only[z,go_sem];exact Hw
 have aw:=bS h;subst aw;rw[b9]at hx;have JQ:=n3 hx;simp only[h,go_sem];refine cX [9] [] ?_;simp only[o,go_sem];refine bw aq ?_;simp only[y,go_sem];exact Hk
def gC:BA:={data:=#[109,97,105,110]}
def p1(l:bM)(m:Int):D:=if hY l m=0 then .tp [.ag [Core.sl (trimB l m.toNat)],I (jD (hB l m.toNat) m),I 0]else .tp [.ag [Core.sl []],I 0,I (hY l m)]
def ry(ab:aw)(ds:aF):D:=if fF ab ds≠0 then .tp [.ag [Core.sl []],I 0,I (fF ab ds)]else if dh ds gC<0 then .tp [.ag [Core.sl []],I 0,I 3]else p1 (dA ab ds) (dh ds gC)
def MO(a:bM)(b:Int):Cl (p1 a b):=by
 unfold p1;split
 .exact Cl.ir cu
 .exact Cl.ir cu
def DF{ab:aw}{ds:aF}(d:fF ab ds=0)(m:(bm.mk ab ds).sz<=1048576)(k:(bm.mk ab ds).ok):n_ (.mk ab ds)/\ds.length<=8/\(∀a∈dA ab ds,a.cA<=1000000000/\a.ok)/\(dA ab ds).length<=1000000:=by
 have j:fS ab ds=0:=by
  by_cases a:fS ab ds=0
  .exact a
  .rw[fF,aM a]at d;exact d
 have b:=oM (qm (sQ j));have g:=n9 b k;have l:n_ (.mk ab ds):=by
  have b:=b;rw[gU]at b;split at b
  .assumption
  .cases b
 have f:=B4 (ab:=ab) (ds:=ds) (λh i=>(g.bd h i).2.2) m;exact⟨l,g.pg.len,λa e=>⟨fY (f a e).n Zo,(f a e).o⟩,by have:=(Ig d).1;omega⟩
def Tl{b:aw}{a:aF}(j:(bm.mk b a).sz<=1048576)(h:(bm.mk b a).ok)(i:n_ (.mk b a))(l:a.length<=8):au 29 [.ag [ai.sl b,ah.sl a]] (.tp [I (if dh a gC<0 then 0 else dh a gC),I (if dh a gC<0 then 3 else 0)]):=by
 have f:=Nh (.mk b a) j h;have e:=wX b a gC iM;have g:Cl (.ag [ai.sl b,ah.sl a]):=Cl.bu cu;rw[bm.ds,bD i]at f;rw[gC]at e⊢;simp only[ai.sl,ah.sl]at f e g⊢;refine Sp.s [] [.tmp 2,.tmp 3] func29 ntmps29 ?_;refine bO f ?_;refine bw e ?_;by_cases d:dh a {data:=#[109,97,105,110]}<0
 .rw[aM d,aM d];simp only[bD d,go_sem];exact .cl _ (Cl.ir Zs)
 .rw[av d,av d];simp only[bj d,go_sem];exact .cl _ (Cl.ir Zs)
def Fz.yL(a:Int):Fz fd (.tp [.ag [a'],I 0,I a]) (.tp [.ag [Core.sl []],I 0,I a]):=Fz.AY (.c (Fz.lI (.c (.nil 4) .n)) (.c (.cl _ (aO _)) (.c (.cl _ (aO _)) .n)))
def trimmed{b:aw}{a:aF}(i:(bm.mk b a).sz<=1048576)(h:(bm.mk b a).ok):au 15 [.ag [ai.sl b,ah.sl a]] (ry b a):=by
 have e:=S5 i h;have p:Cl (.ag [ai.sl b,ah.sl a]):=Cl.bu cu;by_cases d:fF b a=0
 case neg=>
  have f0:(fF b a==0)=al:=by simp[d]
  rw[ry,aM d];rw[av d]at e;simp only[ai.sl,ah.sl,Core.sl]at e p⊢;refine Sp.s [] [.cell 2 40,.tmp 3,.tmp 4] func15 ntmps15 ?_;refine bw e ?_;simp only[bne,f0,go_sem];exact Fz.yL _
 obtain⟨G,F,B,C⟩:=DF d i h;have q:=Tl i h G F;have f:=Wy (dA b a) (dh a gC) B C;have r:(if hY (dA b a) (dh a gC)=0 then D.tp [.ag [Core.sl (trimB (dA b a) (dh a gC).toNat)],I (jD (hB (dA b a) (dh a gC).toNat) (dh a gC)),I 0]else .tp [.ag [Core.sl []],I 0,I (hY (dA b a) (dh a gC))])=p1 (dA b a) (dh a gC):=A;rw[r]at f;have o:Cl (.ag [Core.sl (dA b a)]):=Cl.bu (by simp only[bG,dT];exact Core.cI _);rw[aM d,d]at e;rw[ry,av (by simp[d])];generalize dA b a=j at e f o r;have m:=MO j (dh a gC);obtain⟨t,l⟩:=Zx (p1 j (dh a gC));have z:∃u w y,t=.tp [.ag [.sl 4 u],I w,I y]:=by rw[<-l];unfold p1;split<;>exact⟨_,_,_,A⟩
 rw[l]at f m⊢;obtain⟨J,K,L,rfl⟩:=z;simp only[ai.sl,ah.sl,Core.sl]at e p q f o⊢;refine Sp.s [] [.cell 2 40,.tmp 3,.tmp 4] func15 ntmps15 ?_;refine bw e ?_;simp only[bne,go_sem];refine bw q ?_;by_cases g:dh a gC<0
 .rw[aM g];simp only[g,bne,go_sem];exact Fz.yL _
 rw[av g];simp only[g,bne,go_sem];refine bO f ?_;exact .cl _ m
def SW{b:aw}{a:aF}(p:(bm.mk b a).sz<=1048576)(m:(bm.mk b a).ok):au 11 [.cp [ai.sl b,ah.sl a]] (ry b a):=by
 have h:=SN p m;have g:Cl (.cp [ai.sl b,ah.sl a]):=Cl.eX cu;have F:=ah.cI a;by_cases d:fF b a=0
 case neg=>
  have f0:(fF b a==0)=al:=by simp[d]
  rw[ry,aM d];simp only[ai.sl,ah.sl,Core.sl]at h g⊢;refine Sp.s [] [.cell 2 40,.tmp 3,.tmp 4] func11 ntmps11 ?_;refine qi [] h (.c (.cl _ g) .n) ?_;rintro q K⟨L,rfl,-⟩o-;simp only[ly,bne,f0,go_sem];exact Fz.yL _
 obtain⟨Q,P,z,B⟩:=DF d p m;have i:=xy a gC iM;have e:=Wz (dA b a) (dh a gC) z B;have G:(if hY (dA b a) (dh a gC)=0 then D.tp [.ag [Core.sl (trimB (dA b a) (dh a gC).toNat)],I (jD (hB (dA b a) (dh a gC).toNat) (dh a gC)),I 0]else .tp [.ag [Core.sl []],I 0,I (hY (dA b a) (dh a gC))])=p1 (dA b a) (dh a gC):=A;rw[G]at e;have C:Cl (.ag [Core.sl (dA b a)]):=Cl.bu (by simp only[bG,dT];exact Core.cI _);rw[ry,av (by simp[d])];have l:=MO (dA b a) (dh a gC);obtain⟨r,j⟩:=Zx (p1 (dA b a) (dh a gC));have y:∃t u w,r=.tp [.ag [.sl 4 t],I u,I w]:=by rw[<-j];unfold p1;split<;>exact⟨_,_,_,A⟩
 rw[j]at e l⊢;obtain⟨R,S,U,rfl⟩:=y;rw[gC]at i⊢;rw[gC]at e;simp only[ai.sl,ah.sl,Core.sl]at h g F i e C⊢;refine Sp.s [] [.cell 2 40,.tmp 3,.tmp 4] func11 ntmps11 ?_;refine qi [] h (.c (.cl _ g) .n) ?_;rintro q K⟨L,rfl,J⟩o-;obtain⟨M,rfl⟩:=J d;simp only[ai.sl,ah.sl]at o⊢;simp only[ly,d,bne,go_sem];refine bw i ?_;by_cases f:dh a {data:=#[109,97,105,110]}<0
 .rw[aM f];simp only[bD f,go_sem];exact Fz.yL _
 rw[av f];simp only[bj f,go_sem];refine bO e ?_;exact .cl _ l
end
def UD:Go.Shelf.Ren:=⟨λ|173=>58|246=>102|283=>158|284=>159|285=>160|286=>161|129=>226|317=>227|318=>228|319=>229|320=>230|337=>270|338=>271|n=>n,λ|171=>256|53=>257|37=>76|173=>260|212=>314|51=>311|213=>315|46=>254|232=>359|233=>360|n=>n,λ|17=>0|18=>1|19=>2|n=>n⟩
def SZ:LaysM.n173 aB UD:=by constructor;constructor;all_goals first|kernel_rfl|(intro a;kernel_rfl)
def cP(n:Int):BA:=⟨(Lib.itoa n).toArray⟩
def Qi(a:Int)(j:-9223372036854775808<=a)(k:a<=9223372036854775807):au 58 [I a,I 10] (S (cP a)):=by
 refine⟨⟨_,func58,A,A⟩,λe t vs l o f=>?_⟩;obtain⟨r,s,rfl⟩:∃b d,vs=[b,d]:=by
  match vs,o with
  |[b,d],_=>exact⟨b,d,A⟩
 have h:=f 0 _ r A A;have i:=f 1 _ s A A;cases h;cases i;obtain⟨u,x,p⟩:=l.2.2;refine Calls.mono (Any.strconv_FormatInt_10 SZ a j k e ?_) ?_
 .show((_:ON).bind _)=_;rw[show Program.globalNamed aB _=E GB by kernel_rfl];simp[p]
 .rintro w z⟨rfl,y,g,rfl⟩;exact⟨_,A,⟨A,A,A,by show _<=(e.heap++g).size;rw[p5];omega,λq m=>by show(e.heap++g)[q]?=_;exact uc m⟩,.sc _⟩
def Cq(a:Int)(b:-9223372036854775808<=a)(d:a<=9223372036854775807):au 32 [I a] (S (cP a)):=by
 refine Sp.s [] [.tmp 2] func32 ntmps32 ?_;refine bO (Qi a b d) ?_;exact .cl _ (aO _)
abbrev U8(x:Int):D:=.sc (.int .u8 x)
abbrev YB(l:List UInt8):ct:=l.map λx=>[U8 x.toNat]
def uB(a:List UInt8):∀b∈YB a,b.length=1:=Zs
def mH(a:List UInt8):(YB a).length=a.length:=Zs
def yq(f:List UInt8):∀d∈YB f,∀a∈d,Cl a:=λd e a b=>by
 obtain⟨g,-,rfl⟩:=aG.1 e;simp only[bG]at b;subst b;exact aO _
def yp(a b:List UInt8):YB (a++b)=YB a++YB b:=Zs
def NJ(a:List UInt8):(YB a).flatten=a.map λd=>U8 d.toNat:=by
 induction a with
 |nil=>rfl
 |cons e a b=>simp only[YB,bp,dN]at b⊢;rw[b];rfl
def jq(u:Nat):List UInt8:=if h:u=0 then[]else UInt8.ofNat (48+u%10)::jq (u/10)
termination_by u
decreasing_by omega
def xV:jq 0=[]:=by rw[jq];simp
def AL(a:h≠0):jq h=UInt8.ofNat (48+h%10)::jq (h/10):=by rw[jq,dif_neg a]
def Cp(a:Nat)(b:a≠0):Lib.decDigits a=(jq a).reverse:=by
 rw[Lib.decDigits,AL b,List.reverse_cons];split
 .rename_i d;rw[show a/10=0 by omega,xV,show a%10=a by omega];rfl
 .rename_i d;rw[Cp (a/10) Zo]
termination_by a
decreasing_by omega
def Mc:∀(k a:Nat),a<10^k->(jq a).length<=k
 |0,a,b=>by rw[show a=0 by simpa using b,xV];simp
 |k+1,a,b=>by
  by_cases d:a=0
  .subst d;simp[xV]
  .rw[AL d,di];have:=Mc k (a/10) (by rw[Nat.pow_succ]at b;omega);omega
def WZ(a:h<256):((UInt8.ofNat h).toNat:Int)=h:=by
 rw[UInt8.toNat_ofNat'];omega
def OI(a:List UInt8):bytesOf (a.map λb=>U8 b.toNat)=E (a.map λb=>(b.toNat:Int)):=by
 induction a with
 |nil=>rfl
 |cons e a d=>simp only[bp,bytesOf,d,ey]
def Vx(a:List UInt8):strOfNums (a.map λb=>(b.toNat:Int))=⟨a.toArray⟩:=by
 have:(a.map λb=>(b.toNat:Int)).map (λd=>UInt8.ofNat d.toNat)=a:=by
  rw[dZ]
  conv=>rhs;rw[<-List.map_id a]
  exact gX λb _=>by simp
 rw[strOfNums,this]
def Cr(n:Int)(h0:-9223372036854775808<=n)(F:n<=9223372036854775807):au 24 [I n] (S (cP n)):=by
 have el:cy aB 76=E (5,1,1):=Zk;refine Sp.s [1000023,1000030,1000035,1000050,1000037] [.tmp 2] func24 ntmps24 ?_;have M:(jq n.natAbs).length<=20:=Mc 20 _ Zo;refine mW (λs'=>∃(v:Int)(pre:List UInt8),pre++jq v.natAbs=jq n.natAbs/\v.natAbs<=n.natAbs/\Fw.cK 53 [(0,I n),(4,I v)] (λenv H n1 T=>aH [8,23] H 5 1 (YB pre) (env 3)) s') (λs=>match s.env 4 with|.sc (.int _ n)=>n.natAbs|_=>0)
  ⟨n,[],Zs,b_ _,A,by simp[af,ba],.inr ⟨8,0,Zs,by simp[af],by simp[aj]⟩⟩ ?_
 rintro⟨env,H,n1,nt,T,N⟩⟨v,pre,p,G,rfl,iS,hx⟩;simp only[a7]at iS hx;obtain⟨e0,e4,-⟩:=iS;obtain⟨y,e3⟩:=Zx (env 3);rw[e3]at hx;by_cases r:v=0
 .subst r;have rS:pre=jq n.natAbs:=by simpa[xV]using p
  simp only[e0,e4,bne,go_sem];have d:∀L:List UInt8,Lib.itoa n=L.reverse->cP n=⟨L.reverse.toArray⟩:=λL u=>by rw[cP,u]
  rcases Int.lt_trichotomy n 0 with h|h|h
  .have f1:(n==0)=al:=by simp;omega
   have a:Lib.itoa n=(jq n.natAbs++[45]).reverse:=by rw[Lib.itoa,aM h,Cp _ Zo];simp
   have b:=d _ a;simp only[f1,e0,bD h,go_sem];simp only[e3,go_sem];refine GK.intro (dS.eF (S:=[8,23]) (rows:=YB pre) (bx:=YB [45]) el (by simp only[af,aI,aV,aP];exact hx.congr bJ) (uB _) ga Zs A (by rw[mH,mH,rS];simp only[kJ];omega) (by rw[mH,mH,rS];unfold ao;simp only[kJ];omega) λH4 n4 x4 gb lp=>?_);rw[<-yp,rS]at gb;simp only[go_sem];have qC:=gb.sub (S':=[8,23,30,35]) Zs;have D:x4=x4:=A;have u3:jq n.natAbs++[45]≠[]:=Zs;have f:(jq n.natAbs++[45]).length<=21:=by simp;omega
   clear hx gb lp;rw[b];clear b a d;generalize jq n.natAbs++[45]=L at u3 f qC;exact Z4
  .subst h;have a:Lib.itoa 0=([48]:List UInt8).reverse:=by rw[Lib.itoa,av Zo,Lib.decDigits];rfl
   have b:=d _ a;have z:pre=[]:=by rw[rS];simp[xV]
   subst z;simp only[go_sem];simp only[e3,go_sem];refine GK.intro (dS.eF (S:=[8,23]) (rows:=YB []) (bx:=YB [48]) el (by simp only[af,aI,aV,aP];exact hx.congr bJ) (uB _) ga Zs A Zs (by unfold ao;simp) λH4 n4 x4 gb lp=>?_);rw[<-yp,a8]at gb;simp only[e0,Int.reduceLT,go_sem];have qC:=gb.sub (S':=[8,23,30,35]) Zs;have u3:([48]:List UInt8)≠[]:=Zs;have f:([48]:List UInt8).length<=21:=Zs;clear hx gb lp;rw[b];clear b a d;generalize ([48]:List UInt8)=L at u3 f qC;exact Z4
  .have f1:(n==0)=al:=by simp;omega
   have f2:decide (n<0)=al:=by simp;omega
   have a:Lib.itoa n=(jq n.natAbs).reverse:=by rw[Lib.itoa,av Zo,show n.toNat=n.natAbs by omega,Cp _ Zo]
   have b:=d _ a;simp only[f1,f2,e0,go_sem];have qC:=hx.sub (S':=[8,23,30,35]) Zs;rw[rS]at qC;have u3:jq n.natAbs≠[]:=by rw[AL Zo];simp
   have f:(jq n.natAbs).length<=21:=Zo;clear hx;rw[b];clear b a d;generalize jq n.natAbs=L at u3 f qC;have Jz:(YB L).length=L.length:=mH L;refine GK.fe [8,23,30,35] 3 (.sl 1 (YB L)) (by simp only[af,aV,aP,e3];exact aH.fz (qC.congr (by simp[bi,aj])) Zd (uB _) (yq _)) (cI.2 (yq _)) λH2 b2=>?_;exact F0
 have fv:(v==0)=al:=by simp[r]
 have Jw:((10:Int)=0)=False:=Zs;obtain⟨i,o⟩:=Zx (v.tmod 10);have J:i.natAbs=v.natAbs%10:=by rw[<-o,Int.natAbs_tmod];rfl
 have JR:(v.tdiv 10).natAbs=v.natAbs/10:=by rw[Int.natAbs_tdiv];rfl
 have Q5:IntKind.i64.wrap (v.tdiv 10)=v.tdiv 10:=cW _ Zo;have C:v.natAbs≠0:=Zo;have l:IntKind.u8.wrap (48+((v.natAbs%10:Nat):Int))=((UInt8.ofNat (48+v.natAbs%10)).toNat:Int):=by
  rw[WZ Zo];simp only[IntKind.wrap,IntKind.bits,IntKind.signed,mF,uf,aV];omega
 have m:IntKind.i64.wrap (48+((v.natAbs%10:Nat):Int))=48+((v.natAbs%10:Nat):Int):=cW _ Zo;have rS:(pre++[UInt8.ofNat (48+v.natAbs%10)])++jq (v.tdiv 10).natAbs=jq n.natAbs:=by
  rw[JR,<-p,AL C,dM];rfl
 have K:pre.length+1<=20:=by have:=dO List.length rS;rw[bF,bF,kJ]at this;omega
 simp only[e4,bne,fv,Jw,o,go_sem];by_cases q:i<0
 .have w:IntKind.i64.wrap (0-i)=((v.natAbs%10:Nat):Int):=by rw[cW _ Zo];omega
  simp only[bD q,e3,w,m,l,go_sem];exact GH
 .have B:i=((v.natAbs%10:Nat):Int):=Zo;simp only[bj q,e3,go_sem];rw[B];simp only[m,l,go_sem];exact GH
section
open Go.RowKit (Below Below.refl)
def jp:Go.Shelf.Ren:=⟨λ|156=>106|165=>165|166=>31|169=>34|240=>57|241=>234|276=>101|277=>272|n=>n,λ|31=>60|72=>100|76=>103|70=>98|37=>76|75=>102|127=>135|164=>190|80=>105|n=>n,λn=>n⟩
def KI:Lays.n156 aB jp:=by constructor;all_goals first|kernel_rfl|(intro a;kernel_rfl)
def uU:Builder.Extra aB jp:=by constructor;all_goals first|kernel_rfl|decide|(intro a;kernel_rfl)|(constructor<;>first|kernel_rfl|(intro a;kernel_rfl))
def KJ:Lays.n166 aB jp:=by constructor;all_goals first|kernel_rfl|(intro a;kernel_rfl)
def S0:Lays.n169 aB jp:=by constructor;all_goals first|kernel_rfl|(intro a;kernel_rfl)
def iT(l:aK)(a:BA):BA:=⟨(Lib.join (l.map (·.data.toList)) a.data.toList).toArray⟩
variable {i4:aL}{V:Nat}
def OZ{v:aE}(a:i4.cell? ⟨h,V,aa⟩=E v):h<i4.heap.size:=by
 unfold World.cell? at a;rcases Nat.lt_or_ge h i4.heap.size with q|q
 .exact q
 .rw[Array.getElem?_eq_none q]at a;cases a
def MC(a:aK)(b:BA)(ab:a.length<=1000000)(ai:(iT a b).size<=1000000000):au 106 [.sl 1 (R a),S b] (S (iT a b)):=by
 have P:(Lib.join (a.map (·.data.toList)) b.data.toList).length<=140737488355328:=by
  have:(iT a b).size=(Lib.join (a.map (·.data.toList)) b.data.toList).length:=by simp[iT,ByteArray.size]
  omega
 refine⟨⟨_,func106,A,A⟩,λh F vs Y Q B=>?_⟩;obtain⟨V,W,rfl⟩:∃d f,vs=[d,f]:=by
  match vs,Q with
  |[d,f],_=>exact⟨d,f,A⟩
 have p:=B 0 _ V A A;have I:=B 1 _ W A A;cases I;have r:∀d m,a=[]->Calls aB 106 #[.slice d 0 m,.string b] h λo l=>∃v,o=.returned v/\Below h.heap.size h l/\Rd (view l F (λ_=>aa) db) (S (iT a b)) v:=λd m j=>by
  subst j;refine Calls.mono (Any.strings_Join_none KI uU d m b h) ?_;rintro o l⟨rfl,rfl⟩;refine⟨_,A,Below.refl _ _,?_⟩;have:iT [] b=⟨#[]⟩:=by simp[iT,Lib.join_nil]
  rw[this];exact .sc _
 obtain⟨i,k⟩:=Zx (R a);rw[k]at p;have x:i=[]->a=[]:=λj=>by rw[<-k]at j;simpa[R]using j
 generalize O:D.sl 1 i=X at p;cases p<;>cases O
 .exact r _ _ (x A)
 .exact r _ _ (x A)
 .rename_i f C G U ah Z K ae J;have z:i.length=a.length:=by rw[<-k];simp[R]
  by_cases q:a=[]
  .have:i.length=0:=by rw[z,q];rfl
   rw[this];exact r _ _ q
  have w:∀(g:Nat)e,a[g]?=E e->h.cell? ⟨f,C+g,aa⟩=E (.string e):=λg e s=>by
   have y:i[g]?=E [S e]:=by rw[<-k];simp[R,s]
   have t:=dr (J g _ 0 _ y A);have u:=K g _ 0 _ y A;generalize U g 0=ak at t u;cases u;simpa using t
  have L:f<h.heap.size:=by
   obtain⟨e,s⟩:∃e,a[0]?=E e:=by cases a with|nil=>exact absurd A q|cons d a=>exact⟨d,A⟩
   exact OZ (w 0 e s)
  rw[z];refine Calls.mono (Any.strings_Join KI uU f C G a b h w L Zo Zo P) ?_;rintro o l⟨rfl,M⟩;exact⟨_,A,M,.sc _⟩
end
section
open Classical
def io(v:Int):BA:=if v=1 then{data:=#[43]}else if v=2 then{data:=#[45]}else if v=3 then{data:=#[42]}else if v=4 then{data:=#[47]}else if v=5 then{data:=#[60]}else if v=6 then{data:=#[61]}else{data:=#[]}
def TY:au 126 [] (.sl 1 [[S {data:=#[43]}],[S {data:=#[45]}],[S {data:=#[42]}],[S {data:=#[47]}],[S {data:=#[60]}],[S {data:=#[61]}]]):=by
 refine Sp.s [] [.tmp 0] func126 ntmps126 ?_;exact Fz.rows (ob:=⟨0,9,1,_,aa⟩) (by simp only[bH];rfl) A A Zd A Zs A Zs
def T0(v:Int):au 77 [I v] (S (io v)):=by
 have i:=o5 v 1 6;have b:=TY;have f:Cl (.sl 1 [[S {data:=#[43]}],[S {data:=#[45]}],[S {data:=#[42]}],[S {data:=#[47]}],[S {data:=#[60]}],[S {data:=#[61]}]]):=cI.2 Zs;obtain⟨OL,a⟩:∃OL,[[S {data:=#[43]}],[S {data:=#[45]}],[S {data:=#[42]}],[S {data:=#[47]}],[S {data:=#[60]}],[S {data:=#[61]}]]=OL:=⟨_,A⟩;rw[a]at b f;refine Sp.s [] [.tmp 2] func77 ntmps77 ?_;refine bw i ?_;by_cases h:a1 v 1 6=ad
 case neg=>
  exact GV
 simp only[h,go_sem];refine hU b .n ?_;have e:v=1\/v=2\/v=3\/v=4\/v=5\/v=6:=by simp[a1]at h;omega
 have g:OL[(v-1).toNat]?=E [S (io v)]:=by rw[<-a];rcases e with rfl|rfl|rfl|rfl|rfl|rfl<;>rfl
 have j:IntKind.i64.wrap (v-1)=v-1:=cW _ Zo;have d:(0<=v-1)=True:=bP Zo;simp only[j,d,g,go_sem];exact .cl _ (aO _)
def TZ(v:Int):au 105 [I v] (S (io v)):=by
 have f:=Dr v;refine Sp.s [] [.tmp 2] func105 ntmps105 ?_;refine bw f ?_;by_cases h:a1 v 1 6=ad
 case neg=>
  exact GV
 simp only[h,go_sem];have e:v=1\/v=2\/v=3\/v=4\/v=5\/v=6:=by simp[a1]at h;omega
 have g:IntKind.i64.wrap (v-1)=v-1:=cW _ Zo;have i:({data:=#[43,45,42,47,60,61]}:BA).extract (v-1).toNat v.toNat=io v:=by rcases e with rfl|rfl|rfl|rfl|rfl|rfl<;>rfl
 have o:({data:=#[43,45,42,47,60,61]}:BA).size=6:=A;have a:(0<=v-1)=True:=bP Zo;have b:(v-1<=v)=True:=bP Zo;have j:(v<=6)=True:=bP Zo;have l:(0<=v)=True:=bP Zo;have m:(v-1<=6)=True:=bP Zo;have d:(v<=((#[43,45,42,47,60,61]:bI).size:Int))=True:=bP (by show v<=6;omega);simp only[g,i,a,b,d,go_sem];exact .cl _ (aO _)
def eY(d:IL):BA:=iT (d.map cP) {data:=#[32]}
def iI(k v:Int)(d:IL)(ts:aK):BA:=
 let a:=ts.getD 0 {data:=#[]}
 let b:=ts.getD 1 {data:=#[]}
 if k=1 then{data:=#[35]}++cP v
 else if k=2 then cP v
 else if k=3 then{data:=#[40]}++a++{data:=#[32]}++io v++{data:=#[32]}++b++{data:=#[41]}
 else if k=4 then{data:=#[94]}++a
 else if k=5 then{data:=#[40]}++a++{data:=#[32]}++b++{data:=#[41]}
 else if k=6 then{data:=#[33]}++a
 else if k=7 then{data:=#[40,108,101,116,32]}++a++{data:=#[32,105,110,32]}++b++{data:=#[41]}
 else if k=9 then{data:=#[91]}++eY d++{data:=#[58]}++a++{data:=#[93]}
 else if k=10 then{data:=#[123]}++eY d++{data:=#[58]}++a++{data:=#[125]}
 else if k=11 then{data:=#[64]}++cP v
 else ts.foldl (λs t=>s++({data:=#[32]}++t)) ({data:=#[60]}++cP v)++{data:=#[62]}
mutual
def Core.cZ:Core->ByteArray
 |.mk k v d ks=>iI k v d (Core.A2 ks)
def Core.A2:List Core->List ByteArray
 |[]=>[]
 |c::cs=>c.cZ::Core.A2 cs
end
open Classical
def A3:∀a:bM,Core.A2 a=a.map Core.cZ
 |[]=>rfl
 |c::b=>by rw[Core.A2,A3 b];rfl
def IX:∀(k a:Nat),a<10^(k+1)->(Lib.decDigits a).length<=k+1
 |0,a,b=>by rw[Lib.decDigits,dif_pos (by simpa using b)];simp
 |k+1,a,b=>by
  rw[Lib.decDigits];split
  .simp
  .have:=IX k (a/10) (by rw[Nat.pow_succ]at b;omega);simp;omega
def rF(a:Int)(f:-9223372036854775808<=a)(g:a<=9223372036854775807):(cP a).size<=21:=by
 have d:∀b:Nat,b<=9223372036854775808->(Lib.decDigits b).length<=20:=λb e=>IX 19 b Zo;show(Lib.itoa a).toArray.size<=21;rw[nq,Lib.itoa];split
 .have:=d a.natAbs Zo;simp;omega
 .have:=d a.toNat Zo;omega
def DZ(v:Int):(io v).size<=1:=by
 unfold io
 repeat' split
 all_goals first|exact b_ 1|exact iy 1
def Kf(b:aK)(d:BA):(iT b d).size<=(b.map ByteArray.size).sum+d.size*b.length:=by
 have f:∀e:BA,e.data.toList.length=e.size:=λe=>qV;show(Lib.join _ _).toArray.size<=_;rw[nq];cases b with
 |nil=>simp[Lib.join_nil]
 |cons h a=>
  rw[bp,Lib.join_cons,bF,f,bp,ia];have:(Lib.joinTail d.data.toList (a.map (·.data.toList))).length=(a.map ByteArray.size).sum+d.size*a.length:=by
   induction a with
   |nil=>simp[Lib.joinTail]
   |cons i a g=>
    simp only[Lib.joinTail,bp,dN,bF,f,ia,di]at g⊢;rw[g,Nat.mul_add];omega
  rw[this,di,Nat.mul_add];omega
def xA(d:IL)(o:d.length<=4)(e:∀b∈d,a1 b 0 23=ad):(eY d).size<=100:=by
 have g:=Kf (d.map cP) {data:=#[32]};have h:∀a:IL,(∀b∈a,a1 b 0 23=ad)->((a.map cP).map ByteArray.size).sum<=21*a.length:=λa=>by
  induction a with
  |nil=>simp
  |cons b a k=>
   intro e;have i:=k λl j=>e l (by simp[j]);have f:=e b Zs;have m:=rF b (by simp[a1]at f;omega) (by simp[a1]at f;omega);simp only[bp,ia,di];omega
 have i:=h d e;have f:({data:=#[32]}:BA).size=1:=A;rw[f,bW]at g;unfold eY;omega
def Qp(b:aK):(b.getD 0 {data:=#[]}).size+(b.getD 1 {data:=#[]}).size<=(b.map ByteArray.size).sum:=by
 match b with
 |[]=>exact b_ 0
 |[a]=>exact b_ (a.size+0)
 |a::d::e=>show a.size+d.size<=a.size+(d.size+(e.map ByteArray.size).sum);omega
def CO:∀(b:aK)(a:BA),(b.foldl (λa t=>a++(({data:=#[32]}:BA)++t)) a).size=a.size+b.length+(b.map ByteArray.size).sum
 |[],a=>by simp
 |t::b,a=>by
  have d:({data:=#[32]}:BA).size=1:=A;rw[iZ,CO b,qX,qX,d,di,bp,ia];omega
def CW{v:Int}(d:(Core.mk a0 v m8 s1).aY=ad):(-2147483648<=v/\v<=2147483647)/\∀e∈m8,a1 e 0 23=ad:=by
 have a:=(pL d).1;simp only[kB,b3,b6]at a;refine⟨?_,a.2⟩;have b:=a.1.2;unfold so at b
 repeat' split at b
 all_goals(simp[a1]at b;omega)
def WC{k v:Int}{a:IL}{ts:aK}(G:-2147483648<=v/\v<=2147483647)(d:a.length<=4)(e:∀f∈a,a1 f 0 23=ad)(F:ts.length<=3):(iI k v a ts).size<=150+(ts.map ByteArray.size).sum:=by
 have z:=rF v Zo Zo;have B:=DZ v;have C:=xA a d e;have D:=Qp ts;have b:=CO ts ({data:=#[60]}++cP v);have g:({data:=#[35]}:BA).size=1:=A;have q:({data:=#[40]}:BA).size=1:=A;have r:({data:=#[32]}:BA).size=1:=A;have s:({data:=#[41]}:BA).size=1:=A;have t:({data:=#[94]}:BA).size=1:=A;have u:({data:=#[33]}:BA).size=1:=A;have w:({data:=#[40,108,101,116,32]}:BA).size=5:=A;have x:({data:=#[32,105,110,32]}:BA).size=4:=A;have y:({data:=#[91]}:BA).size=1:=A;have h:({data:=#[58]}:BA).size=1:=A;have i:({data:=#[93]}:BA).size=1:=A;have j:({data:=#[123]}:BA).size=1:=A;have l:({data:=#[125]}:BA).size=1:=A;have m:({data:=#[64]}:BA).size=1:=A;have o:({data:=#[60]}:BA).size=1:=A;have p:({data:=#[62]}:BA).size=1:=A;unfold iI;dsimp only
 repeat' split
 all_goals
  first|simp only[qX,b,g,q,r,s,t,u,w,x,y,h,i,j,l,m,o,p]|skip
  omega
def EF:∀a:Core,a.aY=ad->a.cZ.size<=150*a.cA
 |.mk k v t f,d=>by
  obtain⟨u,g,h,i⟩:=pL d;obtain⟨p,r⟩:=CW d;have e:∀a∈f,a.cZ.size<=150*a.cA:=λa m=>EF a (i a m);have o:∀b:bM,(∀a∈b,a.cZ.size<=150*a.cA)->((b.map Core.cZ).map ByteArray.size).sum<=150*Core.dQ b:=λb=>by
   induction b with
   |nil=>simp
   |cons a b e=>
    intro d;have j:=e λs q=>d s (by simp[q]);have l:=d a Zs;simp only[bp,ia,Core.dQ];omega
  have j:=o f e;have l:=WC (k:=k) (ts:=f.map Core.cZ) p g r (by simpa using h);rw[Core.cZ,A3,Core.cA];omega
variable {dg it:BA}
def wK(a:dg.data.toList=it.data.toList):dg=it:=ByteArray.ext (Array.toList_inj.1 a)
def sK(a b:BA):(a++b).data.toList=a.data.toList++b.data.toList:=by rw[ByteArray.data_append,Array.toList_append]
def N7(a b d:BA):a++b++d=a++(b++d):=wK (by simp only[sK,dM])
def xv(a:aK)(b:BA):(iT a b).data.toList=Lib.join (a.map (·.data.toList)) b.data.toList:=rfl
def Kd(a:BA):iT [] a={data:=#[]}:=rfl
def Ke(a b:BA):iT [a] b=a:=wK (by rw[xv,bp,cB,Lib.join_one])
def R0(a:aK)(f e:BA)(g:a≠[]):iT (a++[f]) e=iT a e++e++f:=by
 obtain⟨d,b,rfl⟩:∃d b,a=d::b:=by cases a with|nil=>exact absurd A g|cons d b=>exact⟨d,b,A⟩
 refine wK ?_;rw[sK,sK,xv,xv,bf,bp,bp,Lib.join_cons,Lib.join_cons,bC];simp[Lib.joinTail]
def Kc(d:BA):∀(b:aK)(a:BA),iT (a::b) d=b.foldl (λe f=>e++(d++f)) a
 |[],a=>Ke a d
 |x::b,a=>by
  rw[iZ,<-Kc d b];refine wK ?_;rw[xv,xv,bp,bp,bp,Lib.join_cons,Lib.join_cons,sK,sK];simp[Lib.joinTail]
def X2:({data:=#[32]}:BA).size=1:=rfl
def Tg(a:IL)(g:a.length<=4)(e:∀b∈a,a1 b 0 23=ad)(d:Nat):(iT ((a.take d).map cP) {data:=#[32]}).size<=100:=by
 have:=xA (a.take d) (by rw[fP];omega) λb f=>e b (p9 f);exact this
def SJ(a:IL)(C:a.length<=4)(u:∀L∈a,a1 L 0 23=ad):au 78 [.sl 1 (Z a)] (S (eY a)):=by
 refine Sp.s [] [.tmp 2] func78 ntmps78 ?_;refine hC 4 a.length (λb=>Fw.Inv 23 [(0,.sl 1 (Z a)),(3,S (iT ((a.take b).map cP) {data:=#[32]}))] True) A ⟨A,by simp[af,ba,Kd],trivial⟩ ?_;rintro b⟨R,M,V,W,Q,P⟩U f⟨rfl,w,-⟩;simp only[a7]at f w;obtain⟨g,e,-⟩:=w;simp only[f,g,go_sem];refine aT (λi=>?_) λi=>?_
 .have d:b<a.length:=by simpa using i
  have t:=oB a b d;have J:=u _ (ax d);have l:-9223372036854775808<=a[b]/\a[b]<=9223372036854775807:=by simp[a1]at J;omega
  have o:=Cr a[b] l.1 l.2;have D:=rF a[b] l.1 l.2;have I:=Tg a C u b;have q:(a.take (b+1)).map cP=(a.take b).map cP++[cP a[b]]:=by rw[ch d,bC];rfl
  generalize cP a[b]=h at o D q;by_cases z:b=0
  .have p:decide ((b:Int)>0)=al:=by simp;omega
   have y:(a.take b).map cP=[]:=by rw[z];simp
   have j:iT ((a.take (b+1)).map cP) {data:=#[32]}={data:=#[]}++h:=by
    rw[q,y,a8,Ke];exact wK (by rw[sK];rfl)
   have r:((#[]:bI).size+h.size<=ao)=True:=bP (by show 0+_<=_;unfold ao;omega);rw[y,Kd]at e;simp only[f,g,e,t,p,go_sem];refine bw o ?_;simp only[f,r,go_sem];refine bg d ⟨A,by rw[j];simp[af,g],trivial⟩
  .have p:decide ((b:Int)>0)=ad:=by simp;omega
   have F:(a.take b).map cP≠[]:=by simp;exact⟨z,by intro B;rw[B]at d;simp at d⟩
   have j:iT ((a.take (b+1)).map cP) {data:=#[32]}=iT ((a.take b).map cP) {data:=#[32]}++{data:=#[32]}++h:=by rw[q,R0 _ _ _ F]
   generalize iT ((a.take b).map cP) {data:=#[32]}=m at e I j;have r:(m.size+(#[32]:bI).size<=ao)=True:=bP (show m.size+1<=ao by unfold ao;omega);have K:(m.size+(#[32]:bI).size+h.size<=ao)=True:=bP (show m.size+1+h.size<=ao by unfold ao;omega);simp only[f,g,e,t,p,r,go_sem];refine bw o ?_;simp only[f,K,go_sem];refine bg d ⟨A,by rw[j];simp[af,g],trivial⟩
 have G:b=a.length:=by simp at i;omega
 subst G;rw[b9]at e;simp only[i,e,go_sem];exact .cl _ (aO _)
def MP(v:Int)(a:IL):iI 1 v a []={data:=#[35]}++cP v:=by unfold iI;simp
def MS(v:Int)(a:IL):iI 2 v a []=cP v:=by unfold iI;simp
def MT(v:Int)(d:IL)(a b:BA):iI 3 v d [a,b]={data:=#[40]}++a++{data:=#[32]}++io v++{data:=#[32]}++b++{data:=#[41]}:=by unfold iI;simp
def MU(v:Int)(b:IL)(a:BA):iI 4 v b [a]={data:=#[94]}++a:=by unfold iI;simp
def MV(v:Int)(d:IL)(a b:BA):iI 5 v d [a,b]={data:=#[40]}++a++{data:=#[32]}++b++{data:=#[41]}:=by unfold iI;simp
def MW(v:Int)(b:IL)(a:BA):iI 6 v b [a]={data:=#[33]}++a:=by unfold iI;simp
def MX(v:Int)(d:IL)(a b:BA):iI 7 v d [a,b]={data:=#[40,108,101,116,32]}++a++{data:=#[32,105,110,32]}++b++{data:=#[41]}:=by unfold iI;simp
def MY(v:Int)(b:IL)(a:aK):iI 8 v b a=a.foldl (λd e=>d++({data:=#[32]}++e)) ({data:=#[60]}++cP v)++{data:=#[62]}:=by unfold iI;simp
def MZ(v:Int)(b:IL)(a:BA):iI 9 v b [a]={data:=#[91]}++eY b++{data:=#[58]}++a++{data:=#[93]}:=by unfold iI;simp
def MQ(v:Int)(b:IL)(a:BA):iI 10 v b [a]={data:=#[123]}++eY b++{data:=#[58]}++a++{data:=#[125]}:=by unfold iI;simp
def MR(v:Int)(a:IL):iI 11 v a []={data:=#[64]}++cP v:=by unfold iI;simp
def KC(c:Core)(M:c.aY=ad)(W:c.cA<=100000):au 45 [.cp c.ds] (S c.cZ):=by
 have ih:∀x:Core,SizeOf.sizeOf x<SizeOf.sizeOf c->x.aY=ad->x.cA<=100000->au 45 [.cp x.ds] (S x.cZ):=λx hx y h2=>KC x y h2;obtain⟨F,v,f,ks⟩:=c;obtain⟨y,L,aC,te⟩:=pL M;obtain⟨aH,P⟩:=CW M;rw[Core.cA]at W;have tb:=Cr v Zo Zo;have aB:=rF v Zo Zo;have aE:=DZ v;have X:=T0 v;have Da:=SJ f L P;have aD:=xA f L P;have m:∀x∈ks,au 45 [.cp x.ds] (S x.cZ)/\x.cZ.size<=15000000:=λx hx=>by
  exact Hr
 have jl:a1 ks.length (eC F).1 (eC F).2.1=ad:=by
  simp only[kB,b3]at y;exact y.1.1.1
 rw[Core.cZ,A3];have aI:Cl (.sl 1 (Z f)):=nK f;rcases mT F with rfl|rfl|rfl|rfl|rfl|rfl|rfl|rfl|rfl|rfl|rfl|V
 .obtain rfl:ks=[]:=by simpa[a1,eC]using jl
  rw[cB,MP];have s0:((#[35]:bI).size+(cP v).size<=ao)=True:=bP (show 1+(cP v).size<=ao by unfold ao;omega);exact Fe
 .obtain rfl:ks=[]:=by simpa[a1,eC]using jl
  rw[cB,MS];refine Sp.s [] [.tmp 2] func45 ntmps45 ?_;refine bO tb ?_;exact .cl _ (aO _)
 .skip
  obtain⟨a,b,rfl⟩:∃a b,ks=[a,b]:=by
   exact uD
  obtain⟨ha,g⟩:=m a Zs;obtain⟨hb,w⟩:=m b Zs;have Q:=Core.cl b;have t:=Core.cl a;rw[bp,bp,cB,MT];generalize u:a.cZ=d at ha g;generalize J:b.cZ=j at hb w;have s0:((#[40]:bI).size+(d).size<=ao)=True:=bP (show 1+(d).size<=ao by unfold ao;omega);have s1:((#[40]:bI).size+(d).size+(#[32]:bI).size<=ao)=True:=bP (show 1+(d).size+1<=ao by unfold ao;omega);have s2:((#[40]:bI).size+(d).size+(#[32]:bI).size+(io v).size<=ao)=True:=bP (show 1+(d).size+1+(io v).size<=ao by unfold ao;omega);have s3:((#[40]:bI).size+(d).size+(#[32]:bI).size+(io v).size+(#[32]:bI).size<=ao)=True:=bP (show 1+(d).size+1+(io v).size+1<=ao by unfold ao;omega);have ap:((#[40]:bI).size+(d).size+(#[32]:bI).size+(io v).size+(#[32]:bI).size+(j).size<=ao)=True:=bP (show 1+(d).size+1+(io v).size+1+(j).size<=ao by unfold ao;omega);have aq:((#[40]:bI).size+(d).size+(#[32]:bI).size+(io v).size+(#[32]:bI).size+(j).size+(#[41]:bI).size<=ao)=True:=bP (show 1+(d).size+1+(io v).size+1+(j).size+1<=ao by unfold ao;omega);refine Sp.e [] [.tmp 2] func45 ntmps45 ?_;simp only[Core.ae,go_sem];refine b7 ?_;refine d' ha ?_;simp only[s0,s1,go_sem];refine d' X ?_;simp only[s2,s3,go_sem];refine d' hb ?_;simp only[ap,aq,go_sem];exact .cl _ (aO _)
 .skip
  obtain⟨a,rfl⟩:∃a,ks=[a]:=hP.1 (by simp[a1,eC]at jl;omega);obtain⟨ha,g⟩:=m a Zs;have t:=Core.cl a;rw[bp,cB,MU];generalize u:a.cZ=d at ha g;have s0:((#[94]:bI).size+(d).size<=ao)=True:=bP (show 1+(d).size<=ao by unfold ao;omega);exact Hn
 .skip
  obtain⟨a,b,rfl⟩:∃a b,ks=[a,b]:=by
   exact uD
  obtain⟨ha,g⟩:=m a Zs;obtain⟨hb,w⟩:=m b Zs;have Q:=Core.cl b;have t:=Core.cl a;rw[bp,bp,cB,MV];generalize u:a.cZ=d at ha g;generalize J:b.cZ=j at hb w;have s0:((#[40]:bI).size+(d).size<=ao)=True:=bP (show 1+(d).size<=ao by unfold ao;omega);have s1:((#[40]:bI).size+(d).size+(#[32]:bI).size<=ao)=True:=bP (show 1+(d).size+1<=ao by unfold ao;omega);have s2:((#[40]:bI).size+(d).size+(#[32]:bI).size+(j).size<=ao)=True:=bP (show 1+(d).size+1+(j).size<=ao by unfold ao;omega);have s3:((#[40]:bI).size+(d).size+(#[32]:bI).size+(j).size+(#[41]:bI).size<=ao)=True:=bP (show 1+(d).size+1+(j).size+1<=ao by unfold ao;omega);exact G2
 .skip
  obtain⟨a,rfl⟩:∃a,ks=[a]:=hP.1 (by simp[a1,eC]at jl;omega);obtain⟨ha,g⟩:=m a Zs;have t:=Core.cl a;rw[bp,cB,MW];generalize u:a.cZ=d at ha g;have s0:((#[33]:bI).size+(d).size<=ao)=True:=bP (show 1+(d).size<=ao by unfold ao;omega);exact Hn
 .skip
  obtain⟨a,b,rfl⟩:∃a b,ks=[a,b]:=by
   exact uD
  obtain⟨ha,g⟩:=m a Zs;obtain⟨hb,w⟩:=m b Zs;have Q:=Core.cl b;have t:=Core.cl a;rw[bp,bp,cB,MX];generalize u:a.cZ=d at ha g;generalize J:b.cZ=j at hb w;have s0:((#[40,108,101,116,32]:bI).size+(d).size<=ao)=True:=bP (show 5+(d).size<=ao by unfold ao;omega);have s1:((#[40,108,101,116,32]:bI).size+(d).size+(#[32,105,110,32]:bI).size<=ao)=True:=bP (show 5+(d).size+4<=ao by unfold ao;omega);have s2:((#[40,108,101,116,32]:bI).size+(d).size+(#[32,105,110,32]:bI).size+(j).size<=ao)=True:=bP (show 5+(d).size+4+(j).size<=ao by unfold ao;omega);have s3:((#[40,108,101,116,32]:bI).size+(d).size+(#[32,105,110,32]:bI).size+(j).size+(#[41]:bI).size<=ao)=True:=bP (show 5+(d).size+4+(j).size+1<=ao by unfold ao;omega);exact G2
 .skip
  rw[MY];have s0:((#[60]:bI).size+(cP v).size<=ao)=True:=bP (show 1+(cP v).size<=ao by unfold ao;omega);have U:=CO;obtain⟨o,K⟩:∃o,({data:=#[60]}:BA)++cP v=o:=⟨_,A⟩;have az:o.size<=30:=by rw[<-K,qX];show 1+_<=30;omega
  have ak:∀l:bM,(∀x∈l,x.cZ.size<=15000000)->((l.map Core.cZ).map ByteArray.size).sum<=15000000*l.length:=λl=>by
   exact G5
  refine Sp.s [] [.tmp 2] func45 ntmps45 ?_;refine bw tb ?_;simp only[s0,go_sem];rw[K];refine bq 4 ks.length (λi=>Fw.Inv 172 [(0,.cp [I 8,I v,.sl 1 (f.map λan=>[I an]),.sl 4 (Core.ae ks)]),(3,S (((ks.take i).map Core.cZ).foldl (λp q=>p++({data:=#[32]}++q)) o))] True) A ⟨A,by simp[af,ba],trivial⟩ ?_;rintro i ay ar aJ aw av aF-;have z:=U ((ks.take i).map Core.cZ) o;have am:=ak (ks.take i) λx hx=>(m x (p9 hx)).2;rw[bW]at z;have aG:(ks.take i).length<=3:=by rw[fP];omega
  simp only[go_sem];refine aT (λB=>?_) λB=>?_
  .have C:i<ks.length:=by simpa using B
   have R:=Core.bo ks i C;obtain⟨ha,g⟩:=m ks[i] (ax C);have t:=Core.cl ks[i];have D:((ks.take (i+1)).map Core.cZ).foldl (λp q=>p++(({data:=#[32]}:BA)++q)) o=((ks.take i).map Core.cZ).foldl (λp q=>p++({data:=#[32]}++q)) o++({data:=#[32]}++ks[i].cZ):=by
    rw[ch C,bC,kn];rfl
   generalize ks[i].cZ=d at ha g D;generalize ((ks.take i).map Core.cZ).foldl (λp q=>p++(({data:=#[32]}:BA)++q)) o=G at z D⊢;have s1:((#[32]:bI).size+d.size<=ao)=True:=bP (show 1+d.size<=ao by unfold ao;omega);have s2:(G.size+((#[32]:bI).size+d.size)<=ao)=True:=bP (show G.size+(1+d.size)<=ao by unfold ao;omega);simp only[R,go_sem];refine bw ha ?_;simp only[s1,s2,go_sem];refine bg C ⟨A,by rw[D];simp[af],trivial⟩
  have ab:i=ks.length:=by simp at B;omega
  subst ab;rw[b9]at z am⊢;have s3:((((ks.map Core.cZ).foldl (λp q=>p++(({data:=#[32]}:BA)++q)) o)).size+(#[62]:bI).size<=ao)=True:=bP (show _+1<=ao by rw[z];unfold ao;omega);simp only[B,s3,go_sem];exact .cl _ (aO _)
 .skip
  obtain⟨a,rfl⟩:∃a,ks=[a]:=hP.1 (by simp[a1,eC]at jl;omega);obtain⟨ha,g⟩:=m a Zs;have t:=Core.cl a;rw[bp,cB,MZ];generalize u:a.cZ=d at ha g;have s0:((#[91]:bI).size+(eY f).size<=ao)=True:=bP (show 1+(eY f).size<=ao by unfold ao;omega);have s1:((#[91]:bI).size+(eY f).size+(#[58]:bI).size<=ao)=True:=bP (show 1+(eY f).size+1<=ao by unfold ao;omega);have s2:((#[91]:bI).size+(eY f).size+(#[58]:bI).size+(d).size<=ao)=True:=bP (show 1+(eY f).size+1+(d).size<=ao by unfold ao;omega);have s3:((#[91]:bI).size+(eY f).size+(#[58]:bI).size+(d).size+(#[93]:bI).size<=ao)=True:=bP (show 1+(eY f).size+1+(d).size+1<=ao by unfold ao;omega);exact G1
 .skip
  obtain⟨a,rfl⟩:∃a,ks=[a]:=hP.1 (by simp[a1,eC]at jl;omega);obtain⟨ha,g⟩:=m a Zs;have t:=Core.cl a;rw[bp,cB,MQ];generalize u:a.cZ=d at ha g;have s0:((#[123]:bI).size+(eY f).size<=ao)=True:=bP (show 1+(eY f).size<=ao by unfold ao;omega);have s1:((#[123]:bI).size+(eY f).size+(#[58]:bI).size<=ao)=True:=bP (show 1+(eY f).size+1<=ao by unfold ao;omega);have s2:((#[123]:bI).size+(eY f).size+(#[58]:bI).size+(d).size<=ao)=True:=bP (show 1+(eY f).size+1+(d).size<=ao by unfold ao;omega);have s3:((#[123]:bI).size+(eY f).size+(#[58]:bI).size+(d).size+(#[125]:bI).size<=ao)=True:=bP (show 1+(eY f).size+1+(d).size+1<=ao by unfold ao;omega);exact G1
 .obtain rfl:ks=[]:=by simpa[a1,eC]using jl
  rw[cB,MR];have s0:((#[64]:bI).size+(cP v).size<=ao)=True:=bP (show 1+(cP v).size<=ao by unfold ao;omega);exact Fe
 .exfalso;simp[a1,eC,V]at jl;omega
termination_by SizeOf.sizeOf c
decreasing_by exact hx
def hZ(c:Core):BA:=if c.valid=ad then c.cZ else{data:=#[]}
def PE(a:Core)(e:a.ok):au 25 [.ag a.ds] (S (hZ a)):=by
 have h:=Core.b1 a;have j:List.take 4 a.ds=a.ds:=cU Zo;have i:(a.ds).all b4=ad:=by rw[b6];exact Core.one a
 have g:=Core.cl a;have d:=DB a e;cases b:a.valid
 .rw[hZ,b,av Zs];rw[b]at d;refine Sp.s [] [.tmp 2] func25 ntmps25 ?_;refine bO d ?_;exact .cl _ (aO _)
 .rw[hZ,b,aM A];have f:=KC a (p3 b) (by simp only[Core.valid,b3,cO]at b;omega);rw[b]at d;refine Sp.s [] [.tmp 2] func25 ntmps25 ?_;refine bO d ?_;refine bO f ?_;exact .cl _ (aO _)
def PH(a:IL)(q:a.length<=4)(j:∀u∈a,a1 u 0 23=ad):au 107 [.sl 1 (Z a)] (S (eY a)):=by
 have t:=dD a;have p:cy aB 60=E (9,1,16):=Zk;have r:=MC (a.map cP) {data:=#[32]} de (by have:(iT (a.map cP) {data:=#[32]}).size<=100:=(xA a q j);omega);refine Sp.e [1000016] [.tmp 2] func107 ntmps107 ?_;simp only[t,go_sem];refine bq 8 a.length (λb=>Fw.cK 20 [(6,.sl 1 (Z a)),(7,I a.length)] λh i C o=>aH [16] i 9 1 (R ((a.take b).map cP)) (h 3)) A ⟨A,by simp[af,ba],.inl ⟨by simp[R],by simp[af]⟩⟩ ?_;rintro b h i D o y B f;obtain⟨J,g⟩:=Zx (h 3);rw[g]at f;simp only[go_sem];refine aT (λd=>?_) λd=>?_
 .have aC:b<a.length:=by simpa using d
  have m:=j _ (ax aC);have rT:R ((a.take (b+1)).map cP)=R ((a.take b).map cP)++[[S (cP a[b])]]:=by rw[ch aC,bC,wl];rfl
  have l:(R ((a.take b).map cP)).length=b:=by simp[R];omega
  simp only[g,oB a b aC,go_sem];refine bO (Cq a[b] (by simp[a1]at m;omega) (by simp[a1]at m;omega)) ?_;refine GK.intro (dS.eF (S:=[16]) (rows:=R ((a.take b).map cP)) (bx:=[[S (cP a[b])]]) p (by simp only[af,aI,aV,aP,bT,bU,reduceCtorEq];exact f.congr bJ) (qc _) ga Zs A (by rw[l];show(b+1)*16<=_;omega) (by rw[l];show b+1<=ao;unfold ao;omega) λw F G gb z=>?_);exact Fs
 have s:b=a.length:=by simp at d;omega
 subst s;rw[b9]at f;simp only[d,g,go_sem];refine fm [16] r (.c (aH.fz (f.congr (by simp[bi])) Zd (qc _) (uy _)) (.c (.cl _ (aO _)) .n)) (aO _) ?_;simp only[go_sem];exact .cl _ (aO _)
def Jk(e b:BA):∀(a:aK)(f:BA),a.foldl (λd t=>d++(e++t)) (b++f)=b++a.foldl (λd t=>d++(e++t)) f
 |[],_=>rfl
 |t::a,f=>by rw[iZ,iZ,N7,Jk e b a]
def IT(c:Core)(P:c.aY=ad)(ar:c.cA<=100000):au 60 [.ag c.ds] (S c.cZ):=by
 have ih:∀x:Core,SizeOf.sizeOf x<SizeOf.sizeOf c->x.aY=ad->x.cA<=100000->au 60 [.ag x.ds] (S x.cZ):=λx hx y h2=>IT x y h2;obtain⟨D,v,f,ks⟩:=c;obtain⟨y,M,aW,te⟩:=pL P;obtain⟨a3,U⟩:=CW P;rw[Core.cA]at ar;have K:cy aB 60=E (9,1,16):=Zk;have tb:=Cq v Zo Zo;have aS:=rF v Zo Zo;have aZ:=DZ v;have av:=TZ v;have Da:=PH f M U;have aX:=xA f M U;have j:∀x∈ks,au 60 [.ag x.ds] (S x.cZ)/\x.cZ.size<=15000000:=λx hx=>by
  exact Hr
 have jl:a1 ks.length (eC D).1 (eC D).2.1=ad:=by
  simp only[kB,b3]at y;exact y.1.1.1
 have a4:Cl (.sl 1 (Z f)):=nK f;rw[Core.cZ,A3];have a2:((ks.map Core.cZ).map ByteArray.size).sum<=15000000*ks.length:=by
  have:∀l:bM,(∀x∈l,x.cZ.size<=15000000)->((l.map Core.cZ).map ByteArray.size).sum<=15000000*l.length:=λl=>by
   exact G5
  exact this ks λx hx=>(j x hx).2
 refine Sp.s [1000017,1000019,1000087] [.tmp 2] func60 ntmps60 ?_;refine bq 9 ks.length (λg=>Fw.cK 124 [(1,.cp [I D,I v,.sl 1 (f.map λW=>[I W]),.sl 4 (Core.ae ks)]),(7,.sl 4 (Core.ae ks)),(8,I ks.length)] λF J W ab=>aH [17] J 9 1 (R ((ks.take g).map Core.cZ)) (F 3)) A ⟨A,by simp[af,ba],.inl ⟨by simp[R],by simp[af]⟩⟩ ?_;rintro g F J a5 ab aK a0 hx;obtain⟨a6,w⟩:=Zx (F 3);rw[w]at hx;simp only[go_sem];refine aT (λq=>?_) λq=>?_
 .have aC:g<ks.length:=by simpa using q
  have G:=Core.bo ks g aC;obtain⟨z,i⟩:=j ks[g] (ax aC);have V:=Core.cl ks[g];have rT:R ((ks.take (g+1)).map Core.cZ)=R ((ks.take g).map Core.cZ)++[[S ks[g].cZ]]:=by rw[ch aC,bC,wl];rfl
  have t:(R ((ks.take g).map Core.cZ)).length=g:=by simp[R];omega
  generalize ks[g].cZ=d at z i rT;generalize ks[g]=am at G z V;obtain⟨aM,aQ,aL,aN⟩:=am;simp only[Core.ds]at G z V;simp only[w,G,go_sem];refine bO z ?_;refine GK.intro (dS.eF (S:=[17]) (rows:=R ((ks.take g).map Core.cZ)) (bx:=[[S d]]) K (by simp only[af,aI,aV,aP,bT,bU,reduceCtorEq];exact hx.congr bJ) (qc _) ga Zs A (by rw[t];show(g+1)*16<=_;omega) (by rw[t];show g+1<=ao;unfold ao;omega) λX az aF gb an=>?_);exact Fs
 have aw:g=ks.length:=by simp at q;omega
 subst aw;rw[b9]at hx;simp only[q,go_sem];refine GK.fe [17] 3 (.sl 1 (R (ks.map Core.cZ))) (by simp only[af,aV,aP,w,bT,bU,aI,reduceCtorEq];exact aH.fz (hx.congr (by simp[bi])) Zd (qc _) (uy _)) (oL _) λaJ ak=>?_;clear hx ak q w;refine GK.intro ?_;rcases mT D with rfl|rfl|rfl|rfl|rfl|rfl|rfl|rfl|rfl|rfl|rfl|aq
 .obtain rfl:ks=[]:=by simpa[a1,eC]using jl
  rw[cB,MP];have s0:((#[35]:bI).size+(cP v).size<=ao)=True:=bP (show 1+(cP v).size<=ao by unfold ao;omega);exact FQ
 .obtain rfl:ks=[]:=by simpa[a1,eC]using jl
  rw[cB,MS];simp only[go_sem];refine bO tb ?_;exact .cl _ (aO _)
 .skip
  obtain⟨a,b,rfl⟩:∃a b,ks=[a,b]:=by
   exact uD
  have i:=(j a Zs).2;have p:=(j b Zs).2;simp only[bp,cB];rw[MT];generalize m:a.cZ=d at i;generalize L:b.cZ=e at p;have o:R [d,e]=[[S d],[S e]]:=A;have g1:([[S d],[S e]]:ct)[Int.toNat 1]?=E [S e]:=A;have zw:((0:Int)<=1)=True:=Zs;have s0:((#[40]:bI).size+(d).size<=ao)=True:=bP (show 1+(d).size<=ao by unfold ao;omega);have s1:((#[40]:bI).size+(d).size+(#[32]:bI).size<=ao)=True:=bP (show 1+(d).size+1<=ao by unfold ao;omega);have s2:((#[40]:bI).size+(d).size+(#[32]:bI).size+(io v).size<=ao)=True:=bP (show 1+(d).size+1+(io v).size<=ao by unfold ao;omega);have s3:((#[40]:bI).size+(d).size+(#[32]:bI).size+(io v).size+(#[32]:bI).size<=ao)=True:=bP (show 1+(d).size+1+(io v).size+1<=ao by unfold ao;omega);have aD:((#[40]:bI).size+(d).size+(#[32]:bI).size+(io v).size+(#[32]:bI).size+(e).size<=ao)=True:=bP (show 1+(d).size+1+(io v).size+1+(e).size<=ao by unfold ao;omega);have aE:((#[40]:bI).size+(d).size+(#[32]:bI).size+(io v).size+(#[32]:bI).size+(e).size+(#[41]:bI).size<=ao)=True:=bP (show 1+(d).size+1+(io v).size+1+(e).size+1<=ao by unfold ao;omega);simp only[go_sem];refine b7 ?_;simp only[s0,s1,go_sem];refine d' av ?_;simp only[g1,zw,s2,s3,aD,aE,go_sem];exact .cl _ (aO _)
 .skip
  obtain⟨a,rfl⟩:∃a,ks=[a]:=hP.1 (by simp[a1,eC]at jl;omega);have i:=(j a Zs).2;simp only[bp,cB];rw[MU];generalize m:a.cZ=d at i;have o:R [d]=[[S d]]:=A;have s0:((#[94]:bI).size+(d).size<=ao)=True:=bP (show 1+(d).size<=ao by unfold ao;omega);exact wC
 .skip
  obtain⟨a,b,rfl⟩:∃a b,ks=[a,b]:=by
   exact uD
  have i:=(j a Zs).2;have p:=(j b Zs).2;simp only[bp,cB];rw[MV];generalize m:a.cZ=d at i;generalize L:b.cZ=e at p;have o:R [d,e]=[[S d],[S e]]:=A;have g1:([[S d],[S e]]:ct)[Int.toNat 1]?=E [S e]:=A;have zw:((0:Int)<=1)=True:=Zs;have s0:((#[40]:bI).size+(d).size<=ao)=True:=bP (show 1+(d).size<=ao by unfold ao;omega);have s1:((#[40]:bI).size+(d).size+(#[32]:bI).size<=ao)=True:=bP (show 1+(d).size+1<=ao by unfold ao;omega);have s2:((#[40]:bI).size+(d).size+(#[32]:bI).size+(e).size<=ao)=True:=bP (show 1+(d).size+1+(e).size<=ao by unfold ao;omega);have s3:((#[40]:bI).size+(d).size+(#[32]:bI).size+(e).size+(#[41]:bI).size<=ao)=True:=bP (show 1+(d).size+1+(e).size+1<=ao by unfold ao;omega);exact Fy
 .skip
  obtain⟨a,rfl⟩:∃a,ks=[a]:=hP.1 (by simp[a1,eC]at jl;omega);have i:=(j a Zs).2;simp only[bp,cB];rw[MW];generalize m:a.cZ=d at i;have o:R [d]=[[S d]]:=A;have s0:((#[33]:bI).size+(d).size<=ao)=True:=bP (show 1+(d).size<=ao by unfold ao;omega);exact wC
 .skip
  obtain⟨a,b,rfl⟩:∃a b,ks=[a,b]:=by
   exact uD
  have i:=(j a Zs).2;have p:=(j b Zs).2;simp only[bp,cB];rw[MX];generalize m:a.cZ=d at i;generalize L:b.cZ=e at p;have o:R [d,e]=[[S d],[S e]]:=A;have g1:([[S d],[S e]]:ct)[Int.toNat 1]?=E [S e]:=A;have zw:((0:Int)<=1)=True:=Zs;have s0:((#[40,108,101,116,32]:bI).size+(d).size<=ao)=True:=bP (show 5+(d).size<=ao by unfold ao;omega);have s1:((#[40,108,101,116,32]:bI).size+(d).size+(#[32,105,110,32]:bI).size<=ao)=True:=bP (show 5+(d).size+4<=ao by unfold ao;omega);have s2:((#[40,108,101,116,32]:bI).size+(d).size+(#[32,105,110,32]:bI).size+(e).size<=ao)=True:=bP (show 5+(d).size+4+(e).size<=ao by unfold ao;omega);have s3:((#[40,108,101,116,32]:bI).size+(d).size+(#[32,105,110,32]:bI).size+(e).size+(#[41]:bI).size<=ao)=True:=bP (show 5+(d).size+4+(e).size+1<=ao by unfold ao;omega);exact Fy
 .rw[MY,Jk,<-Kc];have C:=Kf (cP v::ks.map Core.cZ) {data:=#[32]};rw[bp,ia,di,bW]at C;have C:(iT (cP v::ks.map Core.cZ) {data:=#[32]}).size<=100000000:=fY C (by rw[X2];omega);have Q:=MC (cP v::ks.map Core.cZ) {data:=#[32]} de Zo;have ap:R (cP v::ks.map Core.cZ)=[[S (cP v)]]++R (ks.map Core.cZ):=A;generalize iT (cP v::ks.map Core.cZ) {data:=#[32]}=u at C Q;have s0:((#[60]:bI).size+u.size<=ao)=True:=bP (show 1+u.size<=ao by unfold ao;omega);have s1:((#[60]:bI).size+u.size+(#[62]:bI).size<=ao)=True:=bP (show 1+u.size+1<=ao by unfold ao;omega);have t:(R (ks.map Core.cZ)).length=ks.length:=by simp[R]
  simp only[go_sem];refine bO tb ?_;refine GK.uE (S:=[85]) (rows:=[[S (cP v)]]) (bx:=R (ks.map Core.cZ)) Zd K (by simp only[af,aI,aV,aP,bT,bU,reduceCtorEq];exact .inr ⟨85,_,Zs,A,by simp only[bH];rfl⟩) Zs (by simp[af,cF]) (λg=>by simp[af,g]) (by rw[b6];intro f B;obtain⟨r,ay,B⟩:=ft.1 B;obtain⟨x,-,rfl⟩:=aG.1 ay;simp at B;subst B;rfl) (by rw[t];show(1+_)*16<=_;omega) (by rw[t];show 1+_<=ao;unfold ao;omega) λX az aF aR aU gb an=>?_;rw[<-ap]at gb;simp only[go_sem];refine fm [87] Q (.c (aH.fz (gb.congr (by simp[bi])) Zd (qc _) (uy _)) (.c (.cl _ (aO _)) .n)) (aO _) ?_;simp only[s0,s1,go_sem];exact .cl _ (aO _)
 .skip
  obtain⟨a,rfl⟩:∃a,ks=[a]:=hP.1 (by simp[a1,eC]at jl;omega);have i:=(j a Zs).2;simp only[bp,cB];rw[MZ];generalize m:a.cZ=d at i;have o:R [d]=[[S d]]:=A;have s0:((#[91]:bI).size+(eY f).size<=ao)=True:=bP (show 1+(eY f).size<=ao by unfold ao;omega);have s1:((#[91]:bI).size+(eY f).size+(#[58]:bI).size<=ao)=True:=bP (show 1+(eY f).size+1<=ao by unfold ao;omega);have s2:((#[91]:bI).size+(eY f).size+(#[58]:bI).size+(d).size<=ao)=True:=bP (show 1+(eY f).size+1+(d).size<=ao by unfold ao;omega);have s3:((#[91]:bI).size+(eY f).size+(#[58]:bI).size+(d).size+(#[93]:bI).size<=ao)=True:=bP (show 1+(eY f).size+1+(d).size+1<=ao by unfold ao;omega);exact Fg
 .skip
  obtain⟨a,rfl⟩:∃a,ks=[a]:=hP.1 (by simp[a1,eC]at jl;omega);have i:=(j a Zs).2;simp only[bp,cB];rw[MQ];generalize m:a.cZ=d at i;have o:R [d]=[[S d]]:=A;have s0:((#[123]:bI).size+(eY f).size<=ao)=True:=bP (show 1+(eY f).size<=ao by unfold ao;omega);have s1:((#[123]:bI).size+(eY f).size+(#[58]:bI).size<=ao)=True:=bP (show 1+(eY f).size+1<=ao by unfold ao;omega);have s2:((#[123]:bI).size+(eY f).size+(#[58]:bI).size+(d).size<=ao)=True:=bP (show 1+(eY f).size+1+(d).size<=ao by unfold ao;omega);have s3:((#[123]:bI).size+(eY f).size+(#[58]:bI).size+(d).size+(#[125]:bI).size<=ao)=True:=bP (show 1+(eY f).size+1+(d).size+1<=ao by unfold ao;omega);exact Fg
 .obtain rfl:ks=[]:=by simpa[a1,eC]using jl
  rw[cB,MR];have s0:((#[64]:bI).size+(cP v).size<=ao)=True:=bP (show 1+(cP v).size<=ao by unfold ao;omega);exact FQ
 .exfalso;simp[a1,eC,aq]at jl;omega
termination_by SizeOf.sizeOf c
decreasing_by exact hx
def PD(a:Core)(j:a.ok)(l:a.cA<=1000000000):au 33 [.ag a.ds] (S (hZ a)):=by
 have f:=Core.b1 a;have g:List.take 4 a.ds=a.ds:=cU Zo;have p:(a.ds).all b4=ad:=by rw[b6];exact Core.one a
 have o:=Core.cl a;have d:=EM a l j;cases b:a.valid
 .rw[hZ,b,av Zs];rw[b]at d;refine Sp.e [] [.tmp 2] func33 ntmps33 ?_;simp only[f,g,go_sem];refine bO d ?_;exact .cl _ (aO _)
 .rw[hZ,b,aM A];have h:=p3 b;have i:a.cA<=100000:=by simp only[Core.valid,b3,cO]at b;omega
  have m:=IT a h i;rw[b]at d;refine Sp.e [] [.tmp 2] func33 ntmps33 ?_;simp only[f,g,go_sem];refine bw d ?_;simp only[f,g,go_sem];refine bO m ?_;exact .cl _ (aO _)
end
section
open Go.RowKit Classical
def gM(m:Int)(cs:bM):BA:=cs.foldl (λb c=>b++(({data:=#[10]}:BA)++hZ c)) (cP m)
attribute [local semireducible] St.put
def R5(d:Int)(b:bM)(a:Core):gM d (b++[a])=gM d b++(({data:=#[10]}:BA)++hZ a):=by simp[gM,kn]
attribute [local irreducible] St.put
attribute [local semireducible] St.put
def Ki(d:Int)(b:bM)(a:Nat)(e:a<b.length):gM d (b.take (a+1))=gM d (b.take a)++(({data:=#[10]}:BA)++hZ b[a]):=by
 rw[ch e,R5]
attribute [local irreducible] St.put
attribute [local semireducible] St.put
def Qe(b:bM):∀a:BA,a.size<=(b.foldl (λa d=>a++(({data:=#[10]}:BA)++hZ d)) a).size:=by
 induction b with
 |nil=>intro a;exact b_ _
 |cons d b e=>
  intro a;rw[iZ];refine fY ?_ (e _);rw[qX];exact Nat.le_add_right _ _
attribute [local irreducible] St.put
attribute [local semireducible] St.put
def Dt(d:Int)(a:bM)(b:Nat):(gM d (a.take b)).size<=(gM d a).size:=by
 rw[gM,gM]
 conv=>rhs;rw[(lb b a).symm,kn]
 exact Qe _ _
attribute [local irreducible] St.put
attribute [local semireducible] St.put
def Ew(a b:BA):Lib.strCells (a++b)=Lib.strCells a++Lib.strCells b:=by
 unfold Lib.strCells;rw[sK,bC]
attribute [local irreducible] St.put
attribute [local semireducible] St.put
def SX(j:Int)(aD:-9223372036854775808<=j/\j<=9223372036854775807)(h:bM)(ci:∀bT∈h,bT.ok)(de:h.length<=1000000)(dg:(gM j h).size<=100000000000000):
 au 12 [.cp [Core.sl h],I j] (S (gM j h)):=by
 have bn:=Core.bb h;have aw:(aB).underlying 76=E (.slice 5):=Zk;have bR:(aB).underlying 5=E (.int .u8):=Zk;have a0:(aB).underlying 9=E .string:=Zk;have cf:=Cr j aD.1 aD.2;have bn:=Core.bb h;obtain⟨dh,bq,bK,bG,bh⟩:=info_parts uU.infoByte;refine Sp.Lu func12 A Zk ntmps12 A Zs ?_;intro w c3 a2 ae am co bI;have aY:=bI 0 _ A;have aA:=ae.1;have bx:=aS.at (env:=lm [(0,.cp [Core.sl h]),(1,I j)]) ae aA (b_ _) (λ_ _=>A) am co (pJ (by simp only[a7];exact⟨aY,bI 1 _ A,by simp⟩));simp only[pH,pI]at bx;refine wp_seq (i6 (jG 1 [0,1] (K:=fh 34 [(1,I j)]) bx A (by simp only[h7,h8,fh,go_sem]) λcO c4 bz cq bL=>?_));obtain⟨b,d,e,f,g,a⟩:=cq;obtain⟨env,y,D,F,C,z⟩:=cO;simp only at b d e f g;subst b;subst d;subst e;subst f;subst g;simp only[a7]at a;obtain⟨a',-⟩:=a;refine wp_seq (i6 (jG 1 [0,1] (K:=fh 34 [(7,I j)]) bz A (by simp only[h7,h8,fh,a',go_sem]) λcQ a3 bA cr bN=>?_));clear bz;obtain⟨b,d,e,f,g,a⟩:=cr;obtain⟨env,y,D,F,C,z⟩:=cQ;simp only at b d e f g;subst b;subst d;subst e;subst f;subst g;simp only[a7]at a;obtain⟨bd,-⟩:=a;refine Bf A bA A (first:=[]) (b:=[]) (h:=S (cP j)) A ?_ λc0 az ah l=>?_
 .show oy _ _ _ _ [env 7] _;have:env 7=_:=bd;rw[this];exact .inl ⟨cf,λO aK am=>eO.all (.c (aO _) .n) aK (eg am)⟩
 have L:Below w.heap.size w az:=by simpa using ah
 have be:=gW l (x:=.tmp 8) (v:=.string (cP j)) (by simp[St.ev,St.put,af]);have db:(cP j).size<=21:=rF j aD.1 aD.2;obtain⟨W,aI,bl,aF,ai⟩:=OB.conv (P:=aB) (w:=az) (B:=w.heap.size) (s:=cP j) a0 aw bR L.size iM;refine ub A (v:=W) (b:=aI) (by simp[dl,be,bl]) ?_;have V:=(l.grow ai).put (Rd.sc W) (E 9);have M:Below w.heap.size w aI:=L.trans (ai.mono L.size);clear l bA;refine jG 1 [0] (K:=fh 34 [(5,.sc W)]) V A (by simp only[h7,h8,fh,go_sem]) λcR c5 bB ct bO=>?_;clear V;obtain⟨b,d,e,f,g,a⟩:=ct;obtain⟨env,y,D,F,C,z⟩:=cR;simp only at b d e f g;subst b;subst d;subst e;subst f;subst g;simp only[a7]at a;obtain⟨o,-⟩:=a;refine wp_seq (wp_seq (i6 (jG 1 [0] (K:=fh 34 [(5,.sc W),(6,I 0)]) bB A (by simp only[h7,h8,fh,go_sem];simp[o]) λcS a4 ap cu bP=>?_)));clear bB;obtain⟨b,d,e,f,g,a⟩:=cu;obtain⟨env,y,D,F,C,z⟩:=cS;simp only at b d e f g;subst b;subst d;subst e;subst f;subst g;simp only[a7]at a;obtain⟨o,G,-⟩:=a;have bg:a4.tmps.getD 0 cC=a2.tmps.getD 0 cC:=by
  have cN:fQ [0] a3 ((a3.put (E 8) c0).put (E 9) W):=(fQ.put Zs).trans (fQ.put Zs);exact(bP 0 Zs).trans ((bO 0 Zs).trans ((cN 0 Zs).trans ((bN 0 Zs).trans (bL 0 Zs))))
 refine wp_block (Nw (λi X w'=>X.defers=[]/\X.tmps.size=34/\Below w.heap.size w w'/\X.tmps.getD 0 cC=a2.tmps.getD 0 cC/\X.tmps.getD 6 cC=.int .i64 i/\OB w.heap.size 5 (X.tmps.getD 5 cC) (Lib.strCells (gM j (h.take i))) w') h.length ?_
  ⟨ap.defers,ap.size,M,bg,gW ap (x:=.tmp 6) G,by rw[show a4.tmps.getD 5 cC=W from gW ap (x:=.tmp 5) o];exact aF.kept λ_ _=>A⟩)
 clear ap bg bL bN bO bP o G aF M ai bl be L ah bd a';intro i a5 a1 dd⟨cb,cv,ak,aM,aN,aE⟩;obtain⟨ay,bf⟩:=Zx (a5.tmps.getD 5 cC);rw[bf]at aE;have aR:=aS.at (env:=lm [(0,.cp [Core.sl h]),(6,I i),(5,.sc ay)]) ae aA ak.size ak.block cb cv (pJ (by simp only[a7];exact⟨by rw[aM];exact aY,by rw[aN];exact .sc _,by rw[bf];exact .sc _,Zs⟩));simp only[pH,pI]at aR;refine wp_seq (wp_seq (i6 (jG 7 [0,5,6] (K:=fh 34 [(0,.cp [Core.sl h]),(5,.sc ay),(6,I i),(16,B (decide (i<h.length)))]) aR A (by simp only[h7,h8,fh,bn,go_sem];simp) λcT aJ R cw av=>?_)));clear aR;obtain⟨b,d,e,f,g,a⟩:=cw;obtain⟨env,y,D,F,C,z⟩:=cT;simp only at b d e f g;subst b;subst d;subst e;subst f;subst g;simp only[a7]at a;obtain⟨a9,o,G,a_,-⟩:=a;by_cases Q:i<h.length
 .refine wp_cond_true (gW R (x:=.tmp 16) (by show env 16=_;rw[show env 16=_ from a_];simp[Q])) (wp_skip ?_);refine wp_seq (wp_block (wp_seq (i6 ?_)));refine jG 1 [0,5,6] (K:=fh 34 [(19,.sc ay)]) R A (by simp only[h7,h8,fh,o,go_sem]) λaZ m U aV aW=>?_;clear R;obtain⟨b,d,e,f,g,a⟩:=aV;obtain⟨env,y,D,F,C,z⟩:=aZ;simp only at b d e f g;subst b;subst d;subst e;subst f;subst g;simp only[a7]at a;obtain⟨bU,-⟩:=a;refine EU [] A U (b:=20) A (by simp only[go_sem];rfl) (by simp only[go_sem]) λk az da l=>?_;have br:fQ [0,6] aJ (m.put (E 20) k):=(show fQ [0,6] aJ m from λO J=>aW O (by simp at J⊢;omega)).trans (fQ.put Zs);have ah:Below a1.heap.size a1 az:=mL l.below Zs;have ba:=gW l (x:=.tmp 19) (v:=ay) (by simp[St.ev,St.put,af,bU]);have ar:(m.put (E 20) k).tmps.size=34:=l.size;have bm:(m.put (E 20) k).defers=[]:=l.defers;have aL:(m.put (E 20) k).eval (.tmp 20)=k:=xS m 20 k (by rw[qL]at ar;omega);obtain⟨a6,a8,dk,bp,aC,-,-,-,bk⟩:=(l.obj 20 {gen:=0,elem:=5,sz:=1,cells:=[.sc (.int .u8 10)]} (by simp[St.put,aj])).ex;have aC:=aC.cells A;obtain⟨dj,bH,b5⟩:=bk 0 _ A;cases b5;have bJ:k=.slice (E ⟨a6,0,aa⟩) 1 a8:=by
   have:=l.env 20;rw[show(m.put (E 20) k).tmps.getD 20 cC=k from aL]at this;simp only[St.put]at this;cases this with
   |ms _ _ _ c' c_ dc cI=>obtain⟨rfl,rfl⟩:=cI _ _ bp;rfl
  have bw:=aE.kept ah.block;have L:Below w.heap.size w az:=ak.trans (ah.mono ak.size);obtain⟨p,aI,bD,aF,ai⟩:=OB.append (P:=aB) (t:=76) (u:=76) (ty:=76) (x:=k) (news:=[.int .u8 10]) aw aw (.inr ⟨_,A⟩) bq bK bG bh bw (by rw[bJ];rfl) (by simp[Value.oneCell'])
   (λw' cH=>by
    rw[bJ];exact run_firstCells_some (P:=aB) w' 1 1 ⟨a6,0,aa⟩ 1 a8 [.int .u8 10] A (λcK v aQ=>by
     have:cK=0:=by have:=(ej.1 aQ).1;simpa using this
     subst this;simp at aQ;subst aQ;rw[Addr.add_lit];simp[World.cell?,cH,aC,bH])) (by have:=Dt j h i;rw[Lib.strCells_length];simp;omega) L.size
  clear aC bk bH bp;refine ub A (v:=p) (b:=aI) (by simp[dl,resolve,invoke,builtin,ba,aL,bD]) ?_;have an:fQ [0,6] aJ ((m.put (E 20) k).put (E 21) p):=br.trans (fQ.put Zs);have cx:((m.put (E 20) k).put (E 21) p).tmps.size=34:=by rw[qL];exact ar
  have cc:((m.put (E 20) k).put (E 21) p).defers=[]:=by rw[put_defers];exact bm
  have bV:((m.put (E 20) k).put (E 21) p).tmps.getD 21 cC=p:=xS _ 21 p Zo;generalize (m.put (E 20) k).put (E 21) p=Y at*;clear l U aW;have M:=L.trans ai;have V:=aS.at (env:=lm [(0,.cp [Core.sl h]),(6,I i),(21,.sc p)]) ae aA M.size M.block cc cx (pJ (by simp only[a7];exact⟨by rw[an 0 Zs,av 0 Zs,aM];exact aY,by rw[an 6 Zs,av 6 Zs,aN];exact .sc _,by rw[bV];exact .sc _,Zs⟩));simp only[pH,pI]at V;have bc:Y.tmps.getD 6 cC=.int .i64 i:=by rw[an 6 Zs,av 6 Zs,aN]
  have b7:fQ [0] a5 Y:=λO J=>(an O (by simp at J⊢;omega)).trans (av O (by simp at J⊢;omega));clear ba aL bD bw br ar bm an av;refine jG 1 [0] (K:=fh 34 [(0,.cp [Core.sl h]),(6,I i),(5,.sc p)]) V A (by simp only[h7,h8,fh,go_sem]) λcW c7 aT cy bQ=>?_;clear V;obtain⟨b,d,e,f,g,a⟩:=cy;obtain⟨env,y,D,F,C,z⟩:=cW;simp only at b d e f g;subst b;subst d;subst e;subst f;subst g;simp only[a7]at a;obtain⟨a9,G,o,-⟩:=a;have ca:=Core.b1 h[i];have cG:List.take 4 h[i].ds=h[i].ds:=cU Zo;have df:(h[i].ds).all b4=ad:=by rw[b6];exact Core.one h[i]
  refine i6 (jG 8 [0,5,6] (K:=fh 34 [(22,.sc p),(29,.ag h[i].ds)]) aT A (by simp only[h7,h8,fh,a9,o,G,Core.bo h i Q,ca,cG,go_sem]) λcX Z bC cz aX=>?_);have b8:=(show fQ [0,6] Y Z from λO J=>by
   rcases cJ.1 J with rfl|J
   .exact(aX 0 Zs).trans (bQ 0 Zs)
   .simp at J;subst J;exact(aX 6 Zs).trans ((gW aT (x:=.tmp 6) G).trans bc.symm))
  clear aT bQ aX;obtain⟨b,d,e,f,g,a⟩:=cz;obtain⟨env,y,D,F,C,z⟩:=cX;simp only at b d e f g;subst b;subst d;subst e;subst f;subst g;simp only[a7]at a;obtain⟨bW,bY,-⟩:=a;refine Bf A bC A (first:=[]) (b:=[]) (h:=S (hZ h[i])) A ?_ λaH c1 bi aq=>?_
  .show oy _ _ _ _ [env 29] _;have:env 29=_:=bY;rw[this];exact .inl ⟨PE h[i] (ci _ (ax Q)),λO aK am=>eO.all (.c (Cl.bu (Core.cl _)) .n) aK (eg am)⟩
  have bX:=gW aq (x:=.tmp 22) (v:=p) (by simp[St.ev,St.put,af,bW]);have bZ:=gW aq (x:=.tmp 30) (v:=.string (hZ h[i])) (by simp[St.ev,St.put,af]);have cg:fQ [0,6] Y (Z.put (E 30) aH):=b8.trans (fQ.put Zs);have cA:(Z.put (E 30) aH).tmps.size=34:=aq.size;have cd:(Z.put (E 30) aH).defers=[]:=aq.defers;have cj:=aF.kept bi.block;have bj:Below w.heap.size w c1:=M.trans (bi.mono M.size);clear aq bC;generalize Z.put (E 30) aH=ab at*;have bv:=Dt j h (i+1);have bt:=Ki j h i Q;obtain⟨q,c2,cn,ck,b'⟩:=OB.append (P:=aB) (t:=76) (u:=9) (ty:=76) (x:=.string (hZ h[i])) (news:=Lib.strCells (hZ h[i])) aw a0 (.inl A) bq bK bG bh cj (by rw[Lib.strCells_length];rfl) (Lib.strCells_oneCell _)
   (λw' _=>by rw[Lib.strCells_length];exact Lib.run_firstCells_string w' 1 _) (by
    rw[bt]at bv;simp only[qX]at bv;have:({data:=#[10]}:BA).size=1:=A;rw[bF,Lib.strCells_length,Lib.strCells_length,kJ];omega) bj.size
  refine ub A (v:=q) (b:=c2) (by simp[dl,resolve,invoke,builtin,bX,bZ,cn]) ?_;have bs:fQ [0,6] Y (ab.put (E 31) q):=cg.trans (fQ.put Zs);have cB:(ab.put (E 31) q).tmps.size=34:=by rw[qL];exact cA
  have ce:(ab.put (E 31) q).defers=[]:=by rw[put_defers];exact cd
  have b0:(ab.put (E 31) q).tmps.getD 31 cC=q:=xS _ 31 q Zo;generalize ab.put (E 31) q=c8 at*;have aP:=bj.trans b';have aU:=aS.at (env:=lm [(6,I i),(31,.sc q)]) ae aA aP.size aP.block ce cB (pJ (by simp only[a7];exact⟨by rw[bs 6 Zs,bc];exact .sc _,by rw[b0];exact .sc _,Zs⟩));simp only[pH,pI]at aU;refine jG 1 [0] (K:=fh 34 [(6,I i),(5,.sc q)]) aU A (by simp only[h7,h8,fh,go_sem]) λcY c9 cm cD cL=>?_;clear aU;obtain⟨b,d,e,f,g,a⟩:=cD;obtain⟨env,y,D,F,C,z⟩:=cY;simp only at b d e f g;subst b;subst d;subst e;subst f;subst g;simp only[a7]at a;obtain⟨G,o,-⟩:=a;refine i6 (jG 3 [0] (K:=fh 34 [(6,I (i+1:Nat)),(5,.sc q)]) cm A (by simp only[h7,h8,fh,G,go_sem];simp[o,iX i Zo]) λcZ bS aG cE cM=>?_);obtain⟨b,d,e,f,g,a⟩:=cE;obtain⟨env,y,D,F,C,z⟩:=cZ;simp only at b d e f g;subst b;subst d;subst e;subst f;subst g;simp only[a7]at a;obtain⟨G,o,-⟩:=a;refine .inl ⟨A,Q,aG.defers,aG.size,aP,?_,gW aG (x:=.tmp 6) G,?_⟩
  .exact(cM 0 Zs).trans ((cL 0 Zs).trans ((bs 0 Zs).trans ((b7 0 Zs).trans aM)))
  .rw[show bS.tmps.getD 5 cC=q from gW aG (x:=.tmp 5) o,bt,Ew,Ew,<-dM];exact ck
 .have ch:i=h.length:=Zo;refine wp_cond_false (gW R (x:=.tmp 16) (by show env 16=_;rw[show env 16=_ from a_];simp[Q])) (wp_exit ?_);refine .inr ⟨Zs,?_⟩;rw[ch,b9]at aE;refine wp_seq (i6 ?_);refine jG 1 [0] (K:=fh 34 [(32,.sc ay)]) R A (by simp only[h7,h8,fh,o,go_sem]) λaZ m U aV aW=>?_;clear R;obtain⟨b,d,e,f,g,a⟩:=aV;obtain⟨env,y,D,F,C,z⟩:=aZ;simp only at b d e f g;subst b;subst d;subst e;subst f;subst g;simp only[a7]at a;obtain⟨b2,-⟩:=a;refine ub A (v:=.string (gM j h)) (b:=a1) (by simp[dl,gW U (x:=.tmp 32) b2,OB.back (P:=aB) aw bR a0 aE]) ?_;refine jG 1 [0] (K:=fh 34 [(4,S (gM j h))]) (U.put (Rd.sc _) (E 33)) A (by simp only[h7,h8,fh,go_sem]) λcV c6 l ar di=>?_;clear U;obtain⟨b,d,e,f,g,a⟩:=ar;obtain⟨env,y,D,F,C,z⟩:=cV;simp only at b d e f g;subst b;subst d;subst e;subst f;subst g;simp only[a7]at a;obtain⟨b3,-⟩:=a;exact wp_ret ⟨A,l.defers,gW l (x:=.tmp 4) b3,ak⟩
attribute [local irreducible] St.put
end
end
end Go.Fw
