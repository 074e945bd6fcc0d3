/- A part of the proof about KeyOf. No condition. -/
import Derived.Test.YtiiahfjnecgpgaaGreatDoorRows
import Derived.JoinedOf
import Derived.ProofKit
import Derived.SevenTiedAt
import Derived.Test.YtiiahfjnecgpgaaGreatDoorM01
import Derived.Test.YtiiahfjnecgpgaaGreatDoorM03
import Derived.Test.YtiiahfjnecgpgaaGreatDoorM04
import Derived.Test.YtiiahfjnecgpgaaGreatDoorM05
set_option maxRecDepth 100000
set_option maxHeartbeats 8000000
set_option linter.unusedSimpArgs false
set_option linter.unusedVariables false
set_option linter.defProp false
open Go.Proofs.Tryz
open Go.Proofs.Tryz renaming prog->aB
open Go renaming maxLen->ao,Program->ay,FuncId->bK,wp_region_list->i6,Oper->da,TypeId->aQ,Value->aE,Func->iw
open Option renaming some->E,none->aa
open Bool renaming false->al,true->ad
open Nat renaming reduceEqDiff->aP
open Go.IntWalk renaming i64_in->cW
namespace Go.Proofs.YtiiahfjnecgpgaaGreatDoor
noncomputable section
section
open Go.Fw Go.ChangeShapes
def O.lT:∀{a:List O},(∀c∈a,c.ok)->O.eZ a
 |[],_=>by simp[O.eZ]
 |c::a,b=>by simp only[O.eZ];exact⟨b c Zs,O.lT λd e=>b d (by simp[e])⟩
def O.dec:∀n,dt aB n 59 O.ds O.ok
 |0=>λo a m C q p f D s g=>by
  obtain⟨F,k,rfl,_⟩:=DataW.trod_struct underlying59 g;omega
 |n+1=>λo a m C q p f D s g=>by
  obtain⟨F,k,rfl,_,r,j,h⟩:=DataW.trod_struct underlying59 g;have i:k<=n:=Zo;obtain⟨b,G,y⟩:=dt.field (dt.int underlying2) i (h 0 _ A) (by simp[j]);have u:iL (V0 a) [I b] f 0:=y;obtain⟨d,t,z⟩:=dt.field (dt.str underlying9) i (h 1 _ A) (by simp[j]);have w:iL (V0 a) [S d] f 1:=z;obtain⟨e,l,B⟩:=dt.field (dt.mono (dt.slice (sz:=3) underlying57 Zk Zd O.b1 (O.dec n)) (Nat.le_succ _)) i (h 2 _ A) (by simp[j]);have x:iL (V0 a) [O.sl e] f 2:=by simpa[O.sl,O.bZ]using B
  refine⟨.mk b d e,(by simp only[O.ok];exact⟨t,l.1,O.lT l.2⟩),.of (by rw[O.b1,r,show aB.cellsOf 59=3 by kernel_rfl]) ?_⟩;rw[show O.ds (.mk b d e)=[I b]++([S d]++([O.sl e]))by first|(simp[O.ds];done)|simp[O.ds,O.sl]];exact u.append (w.append (x) (by first|rfl|simp[O.b1])) (by first|rfl|simp[O.b1])
def aA.lT{a:List aA}(d:∀b∈a,b.ok):aA.eZ a:=d
def aA.dec:∀n,dt aB n 141 aA.ds aA.ok
 |0=>λm d l y p o e z r f=>by
  obtain⟨B,j,rfl,_⟩:=DataW.trod_struct underlying141 f;omega
 |n+1=>λm d l y p o e z r f=>by
  obtain⟨B,j,rfl,_,q,i,g⟩:=DataW.trod_struct underlying141 f;have h:j<=n:=Zo;obtain⟨a,s,w⟩:=dt.field (dt.str underlying9) h (g 0 _ A) (by simp[i]);have t:iL (V0 d) [S a] e 0:=w;obtain⟨b,k,x⟩:=dt.field (dt.mono (dt.slice (sz:=3) underlying57 Zk Zd O.b1 (O.dec n)) (Nat.le_succ _)) h (g 1 _ A) (by simp[i]);have u:iL (V0 d) [O.sl b] e 1:=by simpa[O.sl,O.bZ]using x
  refine⟨.mk a b,(by simp only[aA.ok];exact⟨s,k.1,O.lT k.2⟩),.of (by rw[aA.b1,q,show aB.cellsOf 141=2 by kernel_rfl]) ?_⟩;rw[show aA.ds (.mk a b)=[S a]++([O.sl b])by first|(simp[aA.ds];done)|simp[aA.ds,aA.sl]];exact t.append (u) (by first|rfl|simp[O.b1])
def ai.lT{a:List ai}(d:∀b∈a,b.ok):ai.eZ a:=d
def ai.dec:∀n,dt aB n 55 ai.ds ai.ok
 |0=>λm d l y p o e z r f=>by
  obtain⟨B,j,rfl,_⟩:=DataW.trod_struct underlying55 f;omega
 |n+1=>λm d l y p o e z r f=>by
  obtain⟨B,j,rfl,_,q,i,g⟩:=DataW.trod_struct underlying55 f;have h:j<=n:=Zo;obtain⟨a,s,w⟩:=dt.field (dt.str underlying9) h (g 0 _ A) (by simp[i]);have t:iL (V0 d) [S a] e 0:=w;obtain⟨b,k,x⟩:=dt.field (dt.mono (dt.slice (sz:=2) underlying53 Zk Zd aA.b1 (aA.dec n)) (Nat.le_succ _)) h (g 1 _ A) (by simp[i]);have u:iL (V0 d) [aA.sl b] e 1:=by simpa[aA.sl,aA.bZ]using x
  refine⟨.mk a b,(by simp only[ai.ok];exact⟨s,k.1,aA.lT k.2⟩),.of (by rw[ai.b1,q,show aB.cellsOf 55=2 by kernel_rfl]) ?_⟩;rw[show ai.ds (.mk a b)=[S a]++([aA.sl b])by first|(simp[ai.ds];done)|simp[ai.ds,ai.sl]];exact t.append (u) (by first|rfl|simp[aA.b1])
def Y.lT:∀{a:List Y},(∀c∈a,c.ok)->Y.eZ a
 |[],_=>by simp[Y.eZ]
 |c::a,b=>by simp only[Y.eZ];exact⟨b c Zs,Y.lT λd e=>b d (by simp[e])⟩
def Y.dec:∀n,dt aB n 63 Y.ds Y.ok
 |0=>λs a r U u t b V x m=>by
  obtain⟨W,o,rfl,_⟩:=DataW.trod_struct underlying63 m;omega
 |n+1=>λs a r U u t b V x m=>by
  obtain⟨W,o,rfl,_,w,f,d⟩:=DataW.trod_struct underlying63 m;have e:o<=n:=Zo;obtain⟨g,X,K⟩:=dt.field (dt.int underlying2) e (d 0 _ A) (by simp[f]);have B:iL (V0 a) [I g] b 0:=K;obtain⟨h,Z,L⟩:=dt.field (dt.int underlying2) e (d 1 _ A) (by simp[f]);have C:iL (V0 a) [I h] b 1:=L;obtain⟨i,y,M⟩:=dt.field (dt.str underlying9) e (d 2 _ A) (by simp[f]);have D:iL (V0 a) [S i] b 2:=M;obtain⟨j,z,P⟩:=dt.field (O.dec n) e (d 3 _ A) (by simp[f]);have F:iL (V0 a) j.ds b 3:=P;obtain⟨k,p,Q⟩:=dt.field (dt.mono (dt.slice (sz:=1) underlying60 Zk Zd (λ_=>A) (dt.str underlying9)) (Nat.le_succ _)) e (d 4 _ A) (by simp[f]);have G:iL (V0 a) [Fw.strs k] b 6:=Q;obtain⟨l,q,R⟩:=dt.field (dt.mono (dt.slice (sz:=8) underlying61 Zk Zd Y.b1 (Y.dec n)) (Nat.le_succ _)) e (d 5 _ A) (by simp[f]);have J:iL (V0 a) [Y.sl l] b 7:=by simpa[Y.sl,Y.bZ]using R
  refine⟨.mk g h i j k l,(by simp only[Y.ok];exact⟨y,z,p.1,p.2,q.1,Y.lT q.2⟩),.of (by rw[Y.b1,w,show aB.cellsOf 63=8 by kernel_rfl]) ?_⟩;rw[show Y.ds (.mk g h i j k l)=[I g]++([I h]++([S i]++(j.ds++([Fw.strs k]++([Y.sl l])))))by first|(simp[Y.ds];done)|simp[Y.ds,Y.sl]];exact B.append (C.append (D.append (F.append (G.append (J) (by first|rfl|simp[Y.b1,O.b1])) (by first|rfl|simp[Y.b1,O.b1])) (by first|rfl|simp[Y.b1,O.b1])) (by first|rfl|simp[Y.b1,O.b1])) (by first|rfl|simp[Y.b1,O.b1])
def ah.lT{a:List ah}(d:∀b∈a,b.ok):ah.eZ a:=d
def ah.dec:∀n,dt aB n 65 ah.ds ah.ok
 |0=>λm a l D p o f F r g=>by
  obtain⟨G,k,rfl,_⟩:=DataW.trod_struct underlying65 g;omega
 |n+1=>λm a l D p o f F r g=>by
  obtain⟨G,k,rfl,_,q,j,h⟩:=DataW.trod_struct underlying65 g;have i:k<=n:=Zo;obtain⟨b,s,z⟩:=dt.field (dt.str underlying9) i (h 0 _ A) (by simp[j]);have w:iL (V0 a) [S b] f 0:=z;obtain⟨d,t,B⟩:=dt.field (O.dec n) i (h 1 _ A) (by simp[j]);have x:iL (V0 a) d.ds f 1:=B;obtain⟨e,u,C⟩:=dt.field (Y.dec n) i (h 2 _ A) (by simp[j]);have y:iL (V0 a) e.ds f 4:=C;refine⟨.mk b d e,(by simp only[ah.ok];exact⟨s,t,u⟩),.of (by rw[ah.b1,q,show aB.cellsOf 65=12 by kernel_rfl]) ?_⟩;rw[show ah.ds (.mk b d e)=[S b]++(d.ds++(e.ds))by first|(simp[ah.ds];done)|simp[ah.ds,ah.sl]];exact w.append (x.append (y) (by first|rfl|simp[Y.b1,O.b1])) (by first|rfl|simp[Y.b1,O.b1])
def bm.dec:∀n,dt aB n 25 bm.ds bm.ok
 |0=>λo d m y q p e z s f=>by
  obtain⟨B,j,rfl,_⟩:=DataW.trod_struct underlying25 f;omega
 |n+1=>λo d m y q p e z s f=>by
  obtain⟨B,j,rfl,_,r,i,g⟩:=DataW.trod_struct underlying25 f;have h:j<=n:=Zo;obtain⟨a,k,w⟩:=dt.field (dt.mono (dt.slice (sz:=2) underlying22 Zk Zd ai.b1 (ai.dec n)) (Nat.le_succ _)) h (g 0 _ A) (by simp[i]);have t:iL (V0 d) [ai.sl a] e 0:=by simpa[ai.sl,ai.bZ]using w
  obtain⟨b,l,x⟩:=dt.field (dt.mono (dt.slice (sz:=12) underlying23 Zk Zd ah.b1 (ah.dec n)) (Nat.le_succ _)) h (g 1 _ A) (by simp[i]);have u:iL (V0 d) [ah.sl b] e 1:=by simpa[ah.sl,ah.bZ]using x
  refine⟨.mk a b,(by simp only[bm.ok];exact⟨k.1,ai.lT k.2,l.1,ah.lT l.2⟩),.of (by rw[bm.b1,r,show aB.cellsOf 25=2 by kernel_rfl]) ?_⟩;rw[show bm.ds (.mk a b)=[ai.sl a]++([ah.sl b])by first|(simp[bm.ds];done)|simp[bm.ds,bm.sl]];exact t.append (u) (by first|rfl|simp[ai.b1,ah.b1])
end
end
end Go.Proofs.YtiiahfjnecgpgaaGreatDoor
namespace Go.Proofs.YtiiahfjnecgpgaaGreatDoor.fnExactKeyOf
noncomputable section
variable {s2 Do:Bool}
def gA(a:s2=ad)(b:Do=ad):(s2&&Do)=ad:=by rw[a,b];rfl
def j0:Rows.fnExactKeyOfRow.wf (OpenSpec.ofChange Rows.fnExactKeyOfSpec)=ad:=by kernel_rfl
def j1:laidOutB aB=ad:=by kernel_rfl
def j2:mapsRowed aB=ad:=by kernel_rfl
def j3:Tryz.f3.params.all (aB.readableRec ·)=ad:=by kernel_rfl
def j4:namedTie aB Rows.fnExactKeyOfRow.named Rows.fnExactKeyOfSpec.vars=ad:=by kernel_rfl
def j5:(Rows.fnExactKeyOfRow.stops==[])=ad:=by kernel_rfl
def j6:(aB.stops==[])=ad:=by kernel_rfl
def j7:(Rows.fnExactKeyOfRow.knobs==[])=ad:=by kernel_rfl
def j8:(aB.stopKnobs==[])=ad:=by kernel_rfl
def j9:(Rows.fnExactKeyOfRow.inPlace==aB.inPlace 3)=ad:=by kernel_rfl
def RE:(Rows.fnExactKeyOfRow.unfollowed==aB.unfollowed 3)=ad:=by kernel_rfl
def RF:(Rows.fnExactKeyOfRow.recurses==aB.recurses 3)=ad:=by kernel_rfl
def RG:(Rows.fnExactKeyOfRow.named==aB.varsNamed 3)=ad:=by kernel_rfl
def RH:(Rows.fnExactKeyOfRow.maps==(Tryz.f3.params.toList++Rows.fnExactKeyOfSpec.plain.varTypes aB).any (aB.mapsRec ·))=ad:=by kernel_rfl
def RI:(Rows.fnExactKeyOfRow.ifaces==(Tryz.f3.params.toList++Rows.fnExactKeyOfSpec.plain.varTypes aB).any (aB.ifacesRec ·))=ad:=by kernel_rfl
def RJ:(Rows.fnExactKeyOfRow.mapsOut==aB.mapsAmong Tryz.f3.resultTypes.toList)=ad:=by kernel_rfl
def RK:(Rows.fnExactKeyOfRow.loops==(Tryz.f3.params.toList++Rows.fnExactKeyOfSpec.plain.varTypes aB).any (aB.loopsFrom ·))=ad:=by kernel_rfl
def RL:(Rows.fnExactKeyOfRow.wideKeys==(Tryz.f3.params.toList++Rows.fnExactKeyOfSpec.plain.varTypes aB++Tryz.f3.resultTypes.toList).any (aB.wideKeysFrom ·))=ad:=by kernel_rfl
def RM:Rows.fnExactKeyOfSpec.vars.all (aB.varReadable ·)=ad:=by kernel_rfl
def RN:Tryz.f3.resultTypes.all (λa=>aB.readableRec a&&decide (a<aB.types.size))=ad:=by kernel_rfl
def RO:(Rows.fnExactKeyOfRow.ifacesOut==Tryz.f3.resultTypes.toList.any (aB.ifacesRec ·))=ad:=by kernel_rfl
def RP:(Rows.fnExactKeyOfRow.loopsOut==Tryz.f3.resultTypes.toList.any (aB.loopsFrom ·))=ad:=by kernel_rfl
def RQ:(Rows.fnExactKeyOfRow.plainKeys==aB.plainKeys)=ad:=by kernel_rfl
def RR:Rows.fnExactKeyOfRow.shortTexts.isNone=ad:=by kernel_rfl
def RS:aB.stopsHeard=ad:=by kernel_rfl
def RT:aB.mayEnter=ad:=by kernel_rfl
def RU:(Rows.fnExactKeyOfRow.lifted==aB.liftsFinal)=ad:=by kernel_rfl
def RV:(aB.make==E Rows.fnExactKeyOfRow.make)=ad:=by kernel_rfl
def RW:(Rows.fnExactKeyOfRow.kinds==(if Rows.fnExactKeyOfRow.domain.isEmpty then[]else Tryz.f3.params.toList.map λb=>match aB.underlying b with|some (.int a)=>E a|_=>aa))=ad:=by kernel_rfl
def RX:(Rows.fnExactKeyOfRow.pinned==Rows.fnExactKeyOfRow.pinnedBy)=ad:=by kernel_rfl
def RY:(Rows.fnExactKeyOfRow.veiled==(Tryz.f3.params.toList++Rows.fnExactKeyOfSpec.plain.varTypes aB++Tryz.f3.resultTypes.toList).any (aB.veiledRec ·))=ad:=by kernel_rfl
def RZ:Rows.fnExactKeyOfRow.veiledFits aB Tryz.f3.params.toList (Tryz.f3.params.toList++Rows.fnExactKeyOfSpec.plain.varTypes aB++Tryz.f3.resultTypes.toList)=ad:=by kernel_rfl
def R1:joinedFacts aB 3 f3 Rows.fnExactKeyOfSpec Rows.fnExactKeyOfRow=ad:=(gA (gA (gA (gA (gA (gA (gA (gA (gA (gA (gA (gA (gA (gA (gA (gA (gA (gA (gA (gA (gA (gA (gA (gA (gA (gA (gA (gA (gA (gA (gA j0 j1) j2) j3) j4) j5) j6) j7) j8) j9) RE) RF) RG) RH) RI) RJ) RK) RL) RM) RN) RO) RP) RQ) RR) RS) RT) RU) RV) RW) RX) RY) RZ)
def Lc:aB.funcNamed Rows.fnExactKeyOfRow.func=E 3:=by kernel_rfl
def S_:al=aB.looks []:=by kernel_rfl
def Qz:al=Rows.fnExactKeyOfRow.goesBy aB:=by kernel_rfl
def Tk:aB.mainIs=E (ad,"1a1385d5dee66b097d972348d1f8ba65fa8ae93e544fc31702f48597d3ce4e9c".toList):=by kernel_rfl
def XM:Rows.fnExactKeyOfRow.wfByText (OpenSpec.ofChange Rows.fnExactKeyOfSpec)=ad:=by kernel_rfl
def Rx:Tryz.f3.isInstance aB Rows.fnExactKeyOfRow.origin Rows.fnExactKeyOfRow.targs:=of_decide_eq_true (by kernel_rfl)
def XW:Tryz.f3.isWrapper aB Rows.fnExactKeyOfRow.wrapper Rows.fnExactKeyOfRow.mainSum:=by unfold Func.isWrapper;first|(rw[aM (by decide+kernel)];kernel_rfl)|(rw[av (by decide+kernel)];exact⟨A,A⟩)
def Vn:∀(d:Nat)a,Tryz.f3.params[d]?=E a->aB.wantsStandIn a=al:=λd a b=>by
 rw[params3]at b;have f:a∈[25]:=by simpa using Array.mem_of_getElem? b
 have e:([25].all λg=>!aB.wantsStandIn g)=ad:=by kernel_rfl
 exact(show aB.wantsStandIn a=al by simpa using b6.1 e a f)
end
end Go.Proofs.YtiiahfjnecgpgaaGreatDoor.fnExactKeyOf
