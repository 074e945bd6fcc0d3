/- For all arguments the program's KeyOf returns what the reference's KeyOf returns. No condition. -/
import Derived.Test.YtiiahfjnecgpgaaGreatDoorRows
import Derived.WalkKit
import Derived.ProofKit
import Derived.OpenShut
import Derived.ShutString
import Derived.ChangeOld
import Derived.Below
import Derived.Carry
import Derived.LaidMore
import Derived.Lay
import Derived.SevenTiedAt
import Derived.Stop.Joined
import Derived.Lib.LaidTab
import Derived.Test.YtiiahfjnecgpgaaGreatDoorTie
import Derived.Test.YtiiahfjnecgpgaaGreatDoorCards
import Derived.Test.YtiiahfjnecgpgaaGreatDoorM00
import Derived.Test.YtiiahfjnecgpgaaGreatDoorM01
import Derived.Test.YtiiahfjnecgpgaaGreatDoorM03
import Derived.Test.YtiiahfjnecgpgaaGreatDoorM05
import Derived.Test.YtiiahfjnecgpgaaGreatDoorM09
import Derived.Test.YtiiahfjnecgpgaaGreatDoorM12
set_option maxRecDepth 100000
set_option maxHeartbeats 8000000
set_option linter.unusedSimpArgs false
set_option linter.unusedVariables false
set_option linter.defProp false
open Go.Proofs.Tryz
open Go.Proofs (Any.Builder_String_any Any.Builder_WriteString)
open Go.Proofs.Tryz renaming prog->aB
open Go renaming maxLen->ao,Value->aE,TypeId->aQ,World->aL,undef->cC,execOp->dl,wp_region_list->i6
open Option renaming some->E,none->aa
open Bool renaming true->ad,false->al
namespace Go.Fw
noncomputable section
attribute [local irreducible] St.put
section
open Go.RowKit Classical
variable {bv g8:aQ}{i4 u8:aL}
attribute [local semireducible] St.put
def J6{B b:Nat}{bs:VL}(d:Lib.IsBuilder bv g8 B b bs i4)(a:Below i4.heap.size i4 u8):Lib.IsBuilder bv g8 B b bs u8:=by
 have f:∀e,Lib.BuilderAt bv g8 B b e bs i4->Lib.BuilderAt bv g8 B b e bs u8:=λe d=>by
  have l:=d.lt;obtain⟨j,v,g,h,i⟩:=d;refine⟨j,v,(a.block b l).trans g,h.kept (row:=aa) ⟨a.os,a.tape,a.output,a.size,λm k _=>a.block m k⟩ ?_,i⟩;cases v.ownBlock with
  |none=>exact .inl A
  |some o=>exact .inr Zs
 exact d.imp (f _) (f _)
attribute [local irreducible] St.put
attribute [local semireducible] St.put
def R6(e:Int)(ar:-9223372036854775808<=e/\e<=9223372036854775807)(a:bM)(bz:∀a9∈a,a9.ok/\a9.cA<=1000000000)(c6:a.length<=1000000)(c8:(gM e a).size<=100000000000000):
 au 16 [.ag [Core.sl a],I e] (S (gM e a)):=by
 have cg:=Core.bb a;have cT:((((aB).info? 100).bind (·.zero)).map Value.cells)=E #[.pointer aa,.slice aa 0 0]:=Zk;obtain⟨df,a2,cz⟩:=jg.1 cT;obtain⟨c9,ch,a2⟩:=iJ.1 a2;have a':lL aB 31:=⟨_,func31,Zk,A⟩;have bZ:lL aB 34:=⟨_,func34,Zk,A⟩;refine Sp.Lu func16 A Zk ntmps16 A Zs ?_;intro ah q cV aJ Y cn a1;have bR:=a1 0 _ A;have bS:=a1 1 _ A;have bl:∀b,q b->b<ah.heap.size:=aJ.1;have aT:=aS.at (env:=lm [(0,.ag [Core.sl a]),(1,I e)]) aJ bl (b_ _) (λ_ _=>A) Y cn (pJ (by simp only[a7];exact⟨bR,bS,by simp⟩));simp only[pH,pI]at aT;refine wp_seq (i6 ?_);refine EU [] A aT (b:=2) A (by simp only[go_sem];rfl) (by simp only[go_sem]) λc_ j c0 bA=>?_;refine jG 1 [2] (K:=fh 24 [(1,I e),(2,.cp [Core.sl a])]) bA A (by simp only[h7,h8,fh,go_sem]) λcJ o G av cE=>?_;clear bA aT;obtain⟨i,g,h,k,l,f⟩:=av;obtain⟨env,p,w,y,u,s⟩:=cJ;simp only at i g h k l;subst i;subst g;subst h;subst k;subst l;simp only[a7]at f;obtain⟨a_,bc,-⟩:=f;have aK:Below ah.heap.size ah j:=mL G.below Zs;have P:MB q j:=⟨λb d=>gv (bl b d) aK.size,aJ.2.1,G.jr.2⟩;have Q:∀b,q b->b<j.heap.size:=P.1;have ca:∀b,q b->MF q ah.heap.size ah b:=λb d=>.inl d;have g:Rd (qT j q j.heap.size) (env 2) _:=(G.env 2).mono (XE ca);have i:=gW G (x:=.tmp 1) a_;rw[show env 2=_ from bc]at g;have av:o.tmps.size=24:=G.size;have br:o.defers=[]:=G.defers;clear G cE a_ bc bR bS a1;refine wp_seq (i6 ?_);refine ub A (v:=.pointer (E ⟨j.heap.size,0,aa⟩)) (b:=j.alloc (.cells #[.pointer aa,.slice aa 0 0] 100)) (by simp[dl,Instr.alloc,zeroValue,typeInfo,ch,a2,cz,newVar,newRow]) ?_;have aG:=Lib.fresh_isBuilder 100 5 j;have R:=ru j (.cells #[.pointer aa,.slice aa 0 0] 100);generalize j.alloc (.cells #[.pointer aa,.slice aa 0 0] 100)=db at*;have bH:(o.put (E 5) (.pointer (E ⟨j.heap.size,0,aa⟩))).tmps.size=24:=by rw[qL];exact av
 have bs:(o.put (E 5) (.pointer (E ⟨j.heap.size,0,aa⟩))).defers=[]:=br;have ak:(o.put (E 5) (.pointer (E ⟨j.heap.size,0,aa⟩))).tmps.getD 5 cC=.pointer (E ⟨j.heap.size,0,aa⟩):=xS o 5 _ Zo;have ap:fQ [1,2] o (o.put (E 5) (.pointer (E ⟨j.heap.size,0,aa⟩))):=fQ.put Zs;generalize o.put (E 5) (.pointer (E ⟨j.heap.size,0,aa⟩))=a6 at*;obtain⟨b,cb⟩:=Zx (j.heap.size);rw[cb]at Q g aG R ak;have aU:=aS.at (env:=lm [(1,I e),(2,.cp [Core.sl a]),(5,.sc (.pointer (E ⟨b,0,aa⟩)))]) P Q (by have:=R.size;omega) R.block bs bH
  (pJ (by simp only[a7];exact⟨by rw[ap 1 Zs,show o.tmps.getD 1 cC=.int .i64 e from i];exact .sc _,by rw[ap 2 Zs];exact g,by rw[ak];exact .sc _,Zs⟩))
 simp only[pH,pI]at aU;refine wp_seq (i6 ?_);refine jG 1 [2,5] (K:=fh 24 [(5,.sc (.pointer (E ⟨b,0,aa⟩))),(8,I e)]) aU A (by simp only[h7,h8,fh,go_sem]) λcK W bB co bJ=>?_;clear aU;obtain⟨i,g,h,k,l,f⟩:=co;obtain⟨env,p,w,y,u,s⟩:=cK;simp only at i g h k l;subst i;subst g;subst h;subst k;subst l;simp only[a7]at f;obtain⟨m,bd,-⟩:=f;refine Bf A bB A (first:=[]) (b:=[]) (h:=S (cP e)) A ?_ λaz bT aL Z=>?_
 .show oy _ _ _ _ [env 8] _;have:env 8=_:=bd;rw[this];exact .inl ⟨Cq e ar.1 ar.2,λcD aD Y=>eO.all (.c (aO _) .n) aD (eg Y)⟩
 have bj:=J6 aG aL;have be:=gW Z (x:=.tmp 9) (v:=.string (cP e)) (by simp[St.ev,St.put,af]);have am:=gW Z (x:=.tmp 5) (v:=.pointer (E ⟨b,0,aa⟩)) (by simp[St.ev,St.put,af,m]);have c3:(cP e).size<=21:=rF e ar.1 ar.2;have aP:Below b j bT:=R.trans (aL.mono (by have:=R.size;omega));refine ET A A (vs:=[.pointer (E ⟨b,0,aa⟩),.string (cP e)]) (by simp only[bp,cB,am,be]) a' (Any.Builder_WriteString KJ uU b b [] (cP e) bT bj de (by have:=aP.size;omega)) ?_;rintro _ cR⟨rfl,bk,bm⟩;refine⟨_,A,?_⟩;have X:Below b j cR:=aP.trans bm;have aR:fQ [2,5] a6 ((W.put (E 9) az).put (E 10) (.tuple #[.int .i64 (cP e).size,.nilIface])):=(show fQ [2,5] a6 W from bJ).trans ((fQ.put Zs).trans (fQ.put Zs));have bI:((W.put (E 9) az).put (E 10) (.tuple #[.int .i64 (cP e).size,.nilIface])).tmps.size=24:=by rw[qL];exact Z.size
 have bt:((W.put (E 9) az).put (E 10) (.tuple #[.int .i64 (cP e).size,.nilIface])).defers=[]:=by rw[put_defers];exact Z.defers
 generalize (W.put (E 9) az).put (E 10) (.tuple #[.int .i64 (cP e).size,.nilIface])=cW at*;clear Z bB be am bj aG bJ m bd;have aV:=aS.at (env:=lm [(2,.cp [Core.sl a]),(5,.sc (.pointer (E ⟨b,0,aa⟩)))]) P Q (by have:=X.size;omega) X.block bt bI
  (pJ (by simp only[a7];exact⟨by rw[aR 2 Zs,ap 2 Zs];exact g,by rw[aR 5 Zs,ak];exact .sc _,Zs⟩))
 simp only[pH,pI]at aV;refine wp_seq (wp_seq (i6 ?_));refine jG 4 [5] (K:=fh 24 [(5,.sc (.pointer (E ⟨b,0,aa⟩))),(12,Core.sl a),(13,I a.length),(14,I 0)]) aV A (by simp only[h7,h8,fh,cg,go_sem]) λcL cX J cq cG=>?_;clear aV;obtain⟨i,g,h,k,l,f⟩:=cq;obtain⟨env,p,w,y,u,s⟩:=cL;simp only at i g h k l;subst i;subst g;subst h;subst k;subst l;simp only[a7]at f;obtain⟨m,ai,aF,O,-⟩:=f;have a3:Rd (qT j q b) (env 12) _:=(J.env 12).mono (XC X.block);rw[show env 12=_ from ai]at a3;refine wp_block (Nw (λd M w'=>M.defers=[]/\M.tmps.size=24/\Below b j w'/\M.tmps.getD 5 cC=.pointer (E ⟨b,0,aa⟩)/\Rd (qT j q b) (Core.sl a) (M.tmps.getD 12 cC)/\M.tmps.getD 13 cC=.int .i64 a.length/\M.tmps.getD 14 cC=.int .i64 d
  /\Lib.IsBuilder 100 5 b b (Lib.strCells (gM e (a.take d))) w') a.length ?_
  ⟨J.defers,J.size,X,gW J (x:=.tmp 5) m,a3,gW J (x:=.tmp 13) aF,gW J (x:=.tmp 14) O,.inr bk⟩)
 clear J cG m ai aF O a3 bk bm X aR bI bt ap ak g i aP aL R bH bs av br;intro d a8 bU c4⟨cf,cx,an,bi,bf,bg,bh,aI⟩;have aN:b<=bU.heap.size:=by have:=an.size;omega
 have aW:=aS.at (env:=lm [(5,.sc (.pointer (E ⟨b,0,aa⟩))),(12,Core.sl a),(13,I a.length),(14,I d)]) P Q aN an.block cf cx
  (pJ (by simp only[a7];exact⟨by rw[bi];exact .sc _,bf,by rw[bg];exact .sc _,by rw[bh];exact .sc _,Zs⟩))
 simp only[pH,pI]at aW;refine wp_seq (i6 (jG 1 [5,12,13,14] (K:=fh 24 [(5,.sc (.pointer (E ⟨b,0,aa⟩))),(12,Core.sl a),(13,I a.length),(14,I d),(15,B (decide (d<a.length)))]) aW A (by simp only[h7,h8,fh,go_sem];simp) λcM z L aX bK=>?_));clear aW;obtain⟨i,g,h,k,l,f⟩:=aX;obtain⟨env,p,w,y,u,s⟩:=cM;simp only at i g h k l;subst i;subst g;subst h;subst k;subst l;simp only[a7]at f;obtain⟨m,ai,aF,O,ba,-⟩:=f;by_cases F:d<a.length
 .refine wp_seq (wp_cond_true (gW L (x:=.tmp 15) (by show env 15=_;rw[show env 15=_ from ba];simp[F])) (wp_skip ?_));refine wp_seq (wp_block (wp_seq (i6 ?_)));have cc:=Core.b1 a[d];have cy:List.take 4 a[d].ds=a[d].ds:=cU Zo;have c7:(a[d].ds).all b4=ad:=by rw[b6];exact Core.one a[d]
  obtain⟨aA,aC,bP,bV,bQ,bW,aw⟩:∃(aA aC:aE)(bP:Nat)(bV:ct)(bQ:Nat)(bW:ct),aA.oneCell'=ad/\aC.oneCell'=ad/\a[d].ds=[.sc aA,.sc aC,.sl bP bV,.sl bQ bW]:=by
   obtain⟨⟩:=a[d];exact⟨_,_,_,_,_,_,A,A,A⟩
  obtain⟨cH,cI,aw⟩:=aw;refine jG 2 [5,12,13,14] (K:=fh 24 [(5,.sc (.pointer (E ⟨b,0,aa⟩))),(17,.ag a[d].ds)]) L A (by simp only[h7,h8,fh,ai,O,Core.bo a d F,cc,cy,go_sem];simp[m]) λcN cY cm cr bL=>?_;clear L;obtain⟨i,g,h,k,l,f⟩:=cr;obtain⟨env,p,w,y,u,s⟩:=cN;simp only at i g h k l;subst i;subst g;subst h;subst k;subst l;simp only[a7]at f;obtain⟨m,b0,-⟩:=f;refine EU [7] A cm (b:=7) A (by simp only[go_sem];rfl) (by simp only[go_sem]) λda dc c1 bC=>?_;refine XS A bC A (by simp only[b0,aw,go_sem];rfl) (by show(aA.oneCell'&&aC.oneCell')=ad;rw[cH,cI];rfl) λdd bD=>?_;clear bC;have bw:=Dt e a (d+1);have bv:=Ki e a d F;have a0:({data:=#[10]}:BA).size=1:=A;have c5:(gM e (a.take d)).size+(1+(hZ a[d]).size)<=100000000000000:=by
   rw[bv]at bw;simp only[qX,a0]at bw;omega
  have bx:({data:=#[10]}:BA).size+(hZ a[d]).size<=ao:=by unfold ao;rw[a0];omega
  have ck:1+(hZ a[d]).size<=ao:=by rw[a0]at bx;exact bx
  refine i6 ?_;refine jG 1 [5,12,13,14] (K:=λae=>ae.nt=24/\uo [(5,.sc (.pointer (E ⟨b,0,aa⟩))),(18,.ag a[d].ds)] ae) bD A (by simp only[h7,h8,uo,aw,go_sem];simp[m]) λcO cZ bF cu bN=>?_;clear bD;obtain⟨h,f⟩:=cu;obtain⟨env,p,w,y,u,s⟩:=cO;simp only at h;subst h;simp only[uo,a7]at f;obtain⟨m,b2,-⟩:=f;refine Bf A bF A (first:=[]) (b:=[]) (h:=S (hZ a[d])) A ?_ λc' cS c2 bG=>?_
  .show oy _ _ _ _ [env 18] _;have:env 18=_:=b2;rw[this];exact .inl ⟨PD a[d] (bz _ (ax F)).1 (bz _ (ax F)).2,λcD aD Y=>eO.all (.c (Cl.bu (Core.cl _)) .n) aD (eg Y)⟩
  clear bF;refine jG 1 [5,12,13,14] (K:=λae=>ae.nt=24/\uo [(5,.sc (.pointer (E ⟨b,0,aa⟩))),(20,S (({data:=#[10]}:BA)++hZ a[d]))] ae) bG A (by simp only[h7,uo,go_sem];simp[af,m,St.put,ck,h8,LR]) λcQ C U cv bO=>?_;clear bG;obtain⟨h,f⟩:=cv;obtain⟨env,p,w,y,u,s⟩:=cQ;simp only at h;subst h;simp only[uo,a7]at f;obtain⟨m,b3,-⟩:=f;have b5:=gW U (x:=.tmp 20) b3;have am:=gW U (x:=.tmp 5) m;have bn:=mL U.below Zs;have b':=J6 aI bn;have bq:=an.trans (bn.mono aN);have ci:fQ [5,12,13,14] a8 C:=bK.trans (bL.trans ((fQ.put Zs).trans (bN.trans ((fQ.put Zs).trans bO))));have cw:C.tmps.size=24:=U.size;have ce:C.defers=[]:=U.defers;clear U bK bL bN bO;refine ET A A (vs:=[.pointer (E ⟨b,0,aa⟩),.string (({data:=#[10]}:BA)++hZ a[d])]) (by simp only[bp,cB,am,b5]) a' (Any.Builder_WriteString KJ uU b b _ _ cS b' (by rw[Lib.strCells_length,qX];omega) (by have:=bq.size;omega)) ?_;rintro _ a5⟨rfl,aH,aM⟩;refine⟨_,A,?_⟩;have D:Below b j a5:=bq.trans aM;have aH:Lib.IsBuilder 100 5 b b (Lib.strCells (gM e (a.take (d+1)))) a5:=by
   rw[bv,Ew];exact .inr aH
  have aq:fQ [5,12,13,14] a8 (C.put (E 21) (.tuple #[.int .i64 (({data:=#[10]}:BA)++hZ a[d]).size,.nilIface])):=ci.trans (fQ.put Zs);have aY:(C.put (E 21) (.tuple #[.int .i64 (({data:=#[10]}:BA)++hZ a[d]).size,.nilIface])).tmps.size=24:=by rw[qL];exact cw
  have aQ:(C.put (E 21) (.tuple #[.int .i64 (({data:=#[10]}:BA)++hZ a[d]).size,.nilIface])).defers=[]:=by rw[put_defers];exact ce
  generalize C.put (E 21) (.tuple #[.int .i64 (({data:=#[10]}:BA)++hZ a[d]).size,.nilIface])=bX at*;have ab:=aS.at (env:=lm [(14,I d)]) P Q (by have:=D.size;omega) D.block aQ aY (pJ (by simp only[a7];exact⟨by rw[aq 14 Zs,bh];exact .sc _,Zs⟩));simp only[pH,pI]at ab;refine i6 (jG 2 [5,12,13] (K:=fh 24 [(14,I (d+1:Nat))]) ab A (by simp only[h7,h8,fh,go_sem];simp[iX d Zo]) λa4 bY V aZ ay=>?_);obtain⟨i,g,h,k,l,f⟩:=aZ;obtain⟨env,p,w,y,u,s⟩:=a4;simp only at i g h k l;subst i;subst g;subst h;subst k;subst l;simp only[a7]at f;obtain⟨O,-⟩:=f;refine .inl ⟨A,F,V.defers,V.size,D,?_,?_,?_,gW V (x:=.tmp 14) O,aH⟩
  .rw[ay 5 Zs,aq 5 Zs];exact bi
  .rw[ay 12 Zs,aq 12 Zs];exact bf
  .rw[ay 13 Zs,aq 13 Zs];exact bg
 .have cj:d=a.length:=Zo;refine wp_seq (wp_cond_false (gW L (x:=.tmp 15) (by show env 15=_;rw[show env 15=_ from ba];simp[F])) (wp_exit ?_));refine .inr ⟨Zs,?_⟩;rw[cj,b9]at aI;have aX:z.tmps.size=24:=L.size;have cd:z.defers=[]:=L.defers;refine wp_seq (i6 ?_);refine ET A A (vs:=[.pointer (E ⟨b,0,aa⟩)]) (by simp only[bp,cB,gW L (x:=.tmp 5) m]) bZ (Any.Builder_String_any S0 uU b b (gM e a).data.toList bU aI aN) ?_;rintro _ a5⟨rfl,aM⟩;refine⟨_,A,?_⟩;have D:=an.trans aM;have aY:(z.put (E 23) (.string ⟨(gM e a).data.toList.toArray⟩)).tmps.size=24:=by rw[qL];exact aX
  have aQ:(z.put (E 23) (.string ⟨(gM e a).data.toList.toArray⟩)).defers=[]:=by rw[put_defers];exact cd
  have b7:(z.put (E 23) (.string ⟨(gM e a).data.toList.toArray⟩)).tmps.getD 23 cC=.string (gM e a):=by rw[xS z 23 _ Zo]
  generalize z.put (E 23) (.string ⟨(gM e a).data.toList.toArray⟩)=bX at*;have ab:=aS.at (env:=lm [(23,S (gM e a))]) P Q (by have:=D.size;omega) D.block aQ aY (pJ (by simp only[a7];exact⟨by rw[b7];exact .sc _,Zs⟩));simp only[pH,pI]at ab;refine jG 1 [] (K:=fh 24 [(4,S (gM e a))]) ab A (by simp only[h7,h8,fh,go_sem]) λa4 bY V aZ ay=>?_;obtain⟨i,g,h,k,l,f⟩:=aZ;obtain⟨env,p,w,y,u,s⟩:=a4;simp only at i g h k l;subst i;subst g;subst h;subst k;subst l;simp only[a7]at f;obtain⟨b8,-⟩:=f;exact wp_ret ⟨A,V.defers,gW V (x:=.tmp 4) b8,aK.trans (D.mono (by have:=aK.size;omega))⟩
attribute [local irreducible] St.put
end
mutual
def Core.L2(f:Int->Int):∀c:Core,c.ok->(c.aJ f).ok/\(c.aJ f).cA=c.cA
 |.mk k v d ks,h=>by
  have e:=Core.L0 f ks;simp only[Core.ok,Core.aJ,Core.cA,bW]at h e⊢;have:=e h.2.2;exact⟨⟨h.1,by rw[this.1];exact h.2.1,this.2.1⟩,by rw[this.2.2]⟩
def Core.L0(f:Int->Int):∀l:List Core,Core.eZ l->(Core.pX f l).length=l.length/\Core.eZ (Core.pX f l)/\Core.dQ (Core.pX f l)=Core.dQ l
 |[],_=>⟨A,trivial,A⟩
 |c::cs,h=>by
  have b:=Core.L2 f c h.1;have a:=Core.L0 f cs h.2;simp only[Core.pX,Core.eZ,Core.dQ,di];exact⟨by rw[a.1],⟨b.1,a.2.1⟩,by rw[b.2,a.2.2]⟩
end
open Classical
variable {g1:Type}
def Q_(p:g1->Bool)(a:List g1):-1<=et p a/\et p a<=(a.length:Int):=by
 by_cases d:0<=et p a
 .obtain⟨g,e,f,-⟩:=rV d;omega
 .cases b:a.any p
  .rw[xr b];omega
  .have:=mS a (p:=p);rw[b]at this;simp at this;omega
def Wx{a:bM}{b:Int}(g:hY a b=0)(p:∀d∈a,d.cA<=1000000000/\d.ok):((trimB a b.toNat).length<=24/\(hB a b.toNat).length<=24)/\∀d∈trimB a b.toNat,d.ok/\d.cA<=1000000000:=by
 have o:jV a=ad:=by
  unfold hY at g;split at g
  .assumption
  .cases g
 obtain⟨w,x⟩:=wL o;have m:(hB a b.toNat).Nodup:=sI (uF _);have h:∀f∈hB a b.toNat,0<=f/\f<(a.length:Int):=λf i=>by rw[hB,tx]at i;exact i.1
 have u:=tB m h;refine⟨⟨by rw[trimB,bW];omega,Zo⟩,λd k=>?_⟩;rw[trimB,aG]at k;obtain⟨e,r,rfl⟩:=k;obtain⟨s,t⟩:=h e r;have l:e.toNat<a.length:=Zo;have q:a.getD e.toNat (.mk 0 0 [] [])=a[e.toNat]:=by simp[List.getD,l]
 rw[q];have j:=p _ (ax l);have:=Core.L2 (jD (hB a b.toNat)) _ j.2;exact⟨this.1,by rw[this.2];exact j.1⟩
def WD(a:Core):(hZ a).size<=15000000:=by
 unfold hZ;split
 .rename_i b;have d:=EF a (p3 b);have e:a.cA<=100000:=by simp only[Core.valid,b3,cO]at b;omega
  omega
 .exact iy _
def Qf(b:bM):∀a:BA,(b.foldl (λa d=>a++(({data:=#[10]}:BA)++hZ d)) a).size<=a.size+15000001*b.length:=by
 induction b with
 |nil=>intro a;simp
 |cons d b f=>
  intro a;rw[iZ];refine fY (f _) ?_;have g:=WD d;have e:({data:=#[10]}:BA).size=1:=A;simp only[qX,e,di];omega
def Kh(a:Int)(d:-9223372036854775808<=a/\a<=9223372036854775807)(b:bM)(f:b.length<=24):(gM a b).size<=100000000000000:=by
 have e:=Qf b (cP a);have g:=rF a d.1 d.2;exact fY e (by omega)
variable {a4:aw}
def Ov{a:aF}(l:(bm.mk a4 a).sz<=1048576)(k:(bm.mk a4 a).ok):∃(d:bM)(e f:Int),ry a4 a=.tp [.ag [Core.sl d],I e,I f]/\d.length<=24/\(∀b∈d,b.ok/\b.cA<=1000000000)/\-1<=e/\e<=24:=by
 unfold ry;split
 .exact⟨[],0,_,A,Zs,Zs,Zo,Zo⟩
 .rename_i g;split
  .exact⟨[],0,_,A,Zs,Zs,Zo,Zo⟩
  .obtain⟨-,-,j,-⟩:=DF (Decidable.not_not.1 g) l k;unfold p1;split
   .rename_i m;obtain⟨⟨h,o⟩,i⟩:=Wx m j;have:=Q_ (λb=>decide (b=dh a gC)) (hB (dA a4 a) (dh a gC).toNat);exact⟨_,_,_,A,h,i,by unfold jD;omega,by unfold jD;omega⟩
   .exact⟨[],0,_,A,Zs,Zs,Zo,Zo⟩
def R7{d:aw}{e:aF}(l:(bm.mk d e).sz<=1048576)(j:(bm.mk d e).ok):∃(r:BA)(c:Int),au 7 [.ag [ai.sl d,ah.sl e]] (.tp [S r,I c])/\au 5 [.ag [ai.sl d,ah.sl e]] (.tp [S r,I c]):=by
 obtain⟨b,f,c,w,q,m,C,D⟩:=Ov l j;have g:=trimmed l j;have h:=SW l j;rw[w]at g h;have o:=R6 f ⟨Zo,Zo⟩ b m Zo (Kh f ⟨Zo,Zo⟩ b q);have p:=SX f ⟨Zo,Zo⟩ b (λc y=>(m c y).1) Zo (Kh f ⟨Zo,Zo⟩ b q);have z:=ai.cI d;have B:=ah.cI e;have i:=Core.cI b;have t:Cl (.ag [ai.sl d,ah.sl e]):=Cl.bu cu;have u:Cl (.cp [ai.sl d,ah.sl e]):=Cl.eX cu;refine⟨if c=0 then gM f b else{data:=#[]},c,?_,?_⟩
 .simp only[ai.sl,ah.sl,Core.sl]at g o t i⊢;by_cases a:c=0
  .subst a;refine Sp.s [] [.tmp 2,.tmp 3] func7 ntmps7 ?_;refine bw g ?_;simp only[bne,go_sem];refine bO o ?_;exact BK
  .have f0:(c==0)=al:=by simp[a]
   rw[av a];refine Sp.s [] [.tmp 2,.tmp 3] func7 ntmps7 ?_;refine bw g ?_;exact FH
 .simp only[ai.sl,ah.sl,Core.sl]at h p u i⊢;by_cases a:c=0
  .subst a;refine Sp.s [] [.tmp 2,.tmp 3] func5 ntmps5 ?_;refine bw h ?_;simp only[bne,go_sem];refine sN [.cp [.sl 4 (Core.ae b)],I f] _ p A (by simp only[a8,c_,ot,ou,a7];exact⟨Fz.cell (by simp[aj];rfl) A A (by simp only[bG,dT];exact i),.cl _ (aO _),Zs⟩) A ?_;simp only[go_sem];exact BK
  .have f0:(c==0)=al:=by simp[a]
   rw[av a];refine Sp.s [] [.tmp 2,.tmp 3] func5 ntmps5 ?_;refine bw h ?_;exact FH
section
open Classical
def SY(g:bm)(h:g.ok):au 3 [.ag g.ds] (B ad):=by
 have d:=VJ g 1048576 Zo Zo h;obtain⟨a,b⟩:=g;simp only[bm.ds,ai.sl,ah.sl]at d;have r:=ah.bA b;have w:Cl (.ag [.sl 2 (ai.ae a),.sl 12 (ah.ae b)]):=Cl.bu (by simp;exact⟨ai.bA a,r⟩);by_cases q:((bm.mk a b).sz:Int)<=1048576
 case neg=>
  have d1:decide ((-1:Int)<0)=ad:=A;rw[gE q]at d;refine Sp.e [] [.tmp 2] func3 ntmps3 ?_;simp only[bm.ds,go_sem];refine bw d ?_;simp only[d1,go_sem];exact Fz.bool A
 rw[kg q]at d;have d1:decide ((1048576:Int)-(bm.mk a b).sz<0)=al:=by simp;omega
 have o:(bm.mk a b).sz<=1048576:=Zo;obtain⟨p,i,l,m⟩:=R7 o h;have f:=Wn (.mk a b) o;have j:=PT (.mk a b) (.mk a b) h;simp only[bm.ds,ai.sl,ah.sl]at m l f j;have s:(!ad)=al:=A;have u:(p.toList==p.toList)=ad:=Zs;have t:(i !=i)=al:=Zs;refine Sp.e [] [.tmp 2] func3 ntmps3 ?_;simp only[bm.ds,go_sem];refine bw d ?_;simp only[d1,go_sem];refine bO f ?_;refine bO m ?_;refine bO f ?_;refine bw l ?_;simp only[u,t,go_sem];refine b7 ?_;refine iP f ?_;refine d' (by simpa using j) ?_;simp only[s,go_sem];exact Fz.bool A
end
inductive NU:D->Prop
 |sc (v:aE) (h:∀z,v≠.int .u64 z):NU (.sc v)
 |sl (sz:Nat) (rows:List (List D)) (h:∀r∈rows,∀d∈r,NU d):NU (.sl sz rows)
 |ag (ds:List D) (h:∀d∈ds,NU d):NU (.ag ds)
variable {h:Nat}{i2:ct}
def NU.fH(b:∀d∈i2,∀a∈d,NU a):NU (.sl h i2):=.sl _ _ b
def tD(a:Int):NU (I a):=.sc _ Zs
def tE(a:BA):NU (S a):=.sc _ Zs
def tC(a:Bool):NU (B a):=.sc _ Zs
def vu(d:IL):NU (ints d):=.sl _ _ (by rintro f b e a;simp only[aG]at b;obtain⟨g,_,rfl⟩:=b;simp at a;subst a;exact tD _)
def vv(d:aK):NU (strs d):=.sl _ _ (by rintro f b e a;simp only[aG]at b;obtain⟨g,_,rfl⟩:=b;simp at a;subst a;exact tE _)
def vt(d:List Bool):NU (yM d):=.sl _ _ (by rintro f b e a;simp only[aG]at b;obtain⟨g,_,rfl⟩:=b;simp at a;subst a;exact tC _)
variable {ih:View}{am:D}
def NU.val{v:aE}(a:NU am)(d:Rd ih am v):∀b,v≠.int .u64 b:=by
 intro b e;subst e;cases d with
 |sc=>cases a with|sc _ f=>exact f b A
 |any=>cases a
 |cs _ _ _ d _=>cases a
variable {rx:View}
def NU.rd(G:∀j k r,ih.C j k=E r->(∀J,r≠.int .u64 J)->rx.C j k=E r){a:D}{v:aE}(s:Rd ih a v):NU a->Rd rx a v:=by
 induction s with
 |sc v=>exact λ_=>.sc v
 |nil i=>exact λ_=>.nil i
 |fu i x l o=>exact λ_=>.fu i x l o
 |sl i w j k l I B o m z A p=>
  intro h;cases h with|sl _ _ q=>
  have u:∀(b:Nat)(d:DL)(e:Nat)(a:D),w[b]?=E d->d[e]?=E a->NU a:=λb d e a f g=>q d (eg f) a (eg g);exact .sl i w j k l I B o m (λb d e a f g=>G _ _ _ (z b d e a f g) ((u b d e a f g).val (A b d e a f g))) λb d e a f g=>p b d e a f g (u b d e a f g)
 |ag y vs m s p=>
  intro h;cases h with|ag _ q=>
  exact .ag y vs m λb a v t F=>p b a v t F (q a (eg t))
 |_=>intro h;cases h
variable {i4:aL}
def Uy(g:Std i4){a:D}{v:aE}(j:NU a)(f:Rd (view i4 (λ_=>False) (λ_=>aa) db) a v):Rd (view i4 (λb=>b=GB) (λ_=>aa) db) a v:=by
 refine NU.rd (λb o p e m=>?_) f j;have d:=dr e;refine dK d (λh=>?_) Zs;subst h;obtain⟨k,l,i⟩:=g;simp only[World.cell?,i]at d;exact Zg
mutual
def O.nu:∀(x:O),∀d∈x.ds,NU d
 |.mk b e a=>by simp only[O.ds,a7,cS,ez,eJ,fa];(repeat' apply And.intro)<;>first|exact tD _|exact tE _|exact tC _|exact vu _|exact vv _|exact vt _|exact NU.fH (O.n8 a)
def O.n8:∀(l:List O),∀r∈O.ae l,∀d∈r,NU d
 |[]=>by simp[O.ae]
 |c::cs=>by simp only[O.ae,a7];exact⟨O.nu c,O.n8 cs⟩
end
def O.tF(a:cz):NU (O.sl a):=NU.fH (O.n8 a)
def aA.nu(a:aA):∀b∈a.ds,NU b:=by
 cases a;simp only[aA.ds,a7,cS,ez,eJ,fa];(repeat' apply And.intro)<;>first|exact tD _|exact tE _|exact tC _|exact vu _|exact vv _|exact vt _|exact O.tF _
def aA.n8(f:iB):∀d∈aA.ae f,∀a∈d,NU a:=by
 intro d b a e;rw[aA.bZ,aG]at b;obtain⟨g,_,rfl⟩:=b;exact aA.nu g a e
def aA.tF(a:iB):NU (aA.sl a):=NU.fH (aA.n8 a)
def ai.nu(a:ai):∀b∈a.ds,NU b:=by
 cases a;simp only[ai.ds,a7,cS,ez,eJ,fa];(repeat' apply And.intro)<;>first|exact tD _|exact tE _|exact tC _|exact vu _|exact vv _|exact vt _|exact aA.tF _
def ai.n8(f:aw):∀d∈ai.ae f,∀a∈d,NU a:=by
 intro d b a e;rw[ai.bZ,aG]at b;obtain⟨g,_,rfl⟩:=b;exact ai.nu g a e
def ai.tF(a:aw):NU (ai.sl a):=NU.fH (ai.n8 a)
mutual
def Y.nu:∀(x:Y),∀d∈x.ds,NU d
 |.mk b e f g h a=>by simp only[Y.ds,lX,a7,cS,ez,eJ,fa];(repeat' apply And.intro)<;>first|exact tD _|exact tE _|exact tC _|exact vu _|exact vv _|exact vt _|exact O.nu _|exact NU.fH (Y.n8 a)
def Y.n8:∀(l:List Y),∀r∈Y.ae l,∀d∈r,NU d
 |[]=>by simp[Y.ae]
 |c::cs=>by simp only[Y.ae,a7];exact⟨Y.nu c,Y.n8 cs⟩
end
def ah.nu(a:ah):∀b∈a.ds,NU b:=by
 cases a;simp only[ah.ds,lX,a7,cS,ez,eJ,fa];(repeat' apply And.intro)<;>first|exact tD _|exact tE _|exact tC _|exact vu _|exact vv _|exact vt _|exact Y.nu _|exact O.nu _
def ah.n8(f:aF):∀d∈ah.ae f,∀a∈d,NU a:=by
 intro d b a e;rw[ah.bZ,aG]at b;obtain⟨g,_,rfl⟩:=b;exact ah.nu g a e
def ah.tF(a:aF):NU (ah.sl a):=NU.fH (ah.n8 a)
def bm.nu(a:bm):∀b∈a.ds,NU b:=by
 cases a;simp only[bm.ds,a7,cS,ez,eJ,fa];(repeat' apply And.intro)<;>first|exact tD _|exact tE _|exact tC _|exact vu _|exact vv _|exact vt _|exact ai.tF _|exact ah.tF _
end
end Go.Fw
namespace Go.Proofs.YtiiahfjnecgpgaaGreatDoor.fnExactKeyOf
noncomputable section
section
open Go.ChangeShapes Go.WideShapes Go.ChangeAt Go.RowKit Go.Fw
theorem own:ownKnob aB.godebug=aa:=by kernel_rfl
variable {i4:aL}
set_option maxRecDepth 100000 in
theorem Vo(b:laidMetH aB Rows.fnExactKeyOfRow.laid i4):Std i4:=by
 rw[MakeChecks.laidMetH_plain _ _ _ (by kernel_rfl)]at b;obtain⟨r,⟨_,_,_,_,_,_,_,_,_,_,⟨_,_,_,_,_,_,_,_,_,_,⟨p,t,m,o,q,s,d,k,a,h,_,_⟩,_⟩,_⟩,_,_⟩:=b;have i:=(show aB.globalNamed _=E GB by kernel_rfl).symm.trans d;obtain rfl:=sC i;obtain rfl:=sC ((show(aB.globals[GB]?).map (·.type)=E 314 by kernel_rfl).symm.trans k);have g:=Lib.cells_of_tab (zs:=Lib.pow10Tab) underlying314 underlying257 (by kernel_rfl) (by kernel_rfl) h;unfold World.var? at a;rw[d]at a;simp only[jS]at a;split at a
 .rename_i l e f j;obtain rfl:=sC a;exact⟨e,f,by rw[j,<-g]⟩
 .cases a
set_option maxRecDepth 100000 in
theorem lifted(os:Os)(O:os.Started)(u:Type)(enc:aQ×aE->u):
 ReturnsInHanded {} Tryz.checked os 3 .any (λa args=>(Rows.fnExactKeyOfSpec.pre enc aB f3 Rows.fnExactKeyOfRow.domain al a args/\laidMetH aB Rows.fnExactKeyOfRow.laid a)/\sizedMet enc aB f3 (OpenSpec.ofChange Rows.fnExactKeyOfSpec) al a args)
  (Rows.fnExactKeyOfSpec.post enc aB f3 al ad al al):=by
 refine returnsInHanded_of_change_and (C:=Tryz.checked) (X:=λa _=>laidMetH aB Rows.fnExactKeyOfRow.laid a) (λ_ _ _ f d=>d.of_heap f) own O (by kernel_rfl) func3
  (ChangeSpec.witness_shaped (enc:=enc) (C:=Tryz.checked) (os:=os) (X:=λa _=>laidMetH aB Rows.fnExactKeyOfRow.laid a) al (World.laidAll aB os Rows.fnExactKeyOfRow.laid) #[.agg #[.slice aa 0 0,.slice aa 0 0]] 8 (World.laidAll_os _ _ _)
   (World.shaped_of_ZipB (by kernel_rfl) (by kernel_rfl)) (by kernel_rfl) (by kernel_rfl) (by kernel_rfl)
   (by rw[MakeChecks.laidMetH_plain _ _ _ (by kernel_rfl)];exact laidMet_laidAll _ (by kernel_rfl) (by kernel_rfl))) ?_
 intro b w args x U Q q o W _ B _;have e:=Vo B;have p:∀(r:Nat)t v,Tryz.f3.params[r]?=E t->args[r]?=E v->Value.okWide aB b .any w t v:=q;have F:=o;obtain⟨L,ae,m,D,rfl,Y,Z⟩:=o;have l:DataW.TrodAll enc aB b 0 (λ_=>ad) ad Tryz.f3.params.toList args.toList x L:=m;rw[params3]at l p;obtain⟨g,ai,d0,R,ab,ah,V,rfl,rfl,k,M⟩:=trodAll_cons l;obtain⟨rfl,rfl,rfl⟩:=trodAll_nil M;obtain rfl:args=#[g]:=by cases args;simp_all
 obtain⟨rfl,rfl⟩:=trodVars_none D;have s:=k;obtain⟨h,K,z⟩:=N3 underlying25 bm.dec (p 0 25 g A A) k;clear m q;refine((SY h K).run b (λi=>i=GB) [g] ⟨λi G=>by subst G;obtain⟨y,S,f⟩:=e;exact(iY.1 f).1,A,e⟩ A (UA (by simp only[ot,ou,a7];exact⟨Uy e (NU.ag _ (bm.nu h)) z,by simp⟩))).mono λy P⟨v,I,j,J⟩=>?_;obtain rfl:=Uz J;subst I;exact⟨_,A,_,_,_,[],_,[],F,trodAll_mk1 (shut_bool underlying4 _),(trodAll_cons_mk (Below.trod j1 (by kernel_rfl) (of_decide_eq_true (by kernel_rfl)) s j (WA s)) trodAll_mk0),A,j.frame _,λd=>by cases d⟩
theorem over:Rows.fnExactKeyOfRow.holds Tryz.pinned (OpenSpec.ofChange Rows.fnExactKeyOfSpec):=
 OpenClaim.holds_of_wide 3 f3 A A A A A A A ⟨A,A,A,A,A⟩ A A A A A Lc func3 R1 Rx XW
  λb d a enc _=>lifted b d a enc
theorem proved:Rows.FnExactKeyOfCardSaid:=
 Claim7.holds_tied_plain_at .later [] [.data,.data,.data] ad (ad,"1a1385d5dee66b097d972348d1f8ba65fa8ae93e544fc31702f48597d3ce4e9c") al over (λ_ a=>by cases a) XM (λ_ a=>by cases a) fnExactKeyOf_row_tie A ⟨A,A⟩ Tk A
  (λb d e f=>by
   obtain rfl:b=3:=sC (Lc.symm.trans e)|>.symm;obtain rfl:d=f3:=(sC (Tryz.func3.symm.trans f)).symm;exact⟨S_,Vn⟩)
  Qz
end
end
end Go.Proofs.YtiiahfjnecgpgaaGreatDoor.fnExactKeyOf
