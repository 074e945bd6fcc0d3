/-
  The law FnExactReplaceDef over data. No condition.
-/
import Derived.Test.YtcidmkcicagpaaaGreatP15
import Derived.Test.YtcidmkcicagpaaaGreatL3
set_option maxRecDepth 100000
set_option linter.unusedSimpArgs false
set_option linter.unusedVariables false
namespace Go.Proofs.YtcidmkcicagpaaaGreat
open Go.Fw
/-! ### How many marks -/
mutual
theorem Typ.cnt_le : ∀ c : Typ, c.cnt ≤ 2 + 2 * c.sz
  | .mk x0 x1 x2 => by have := Typ.cntL_le' x2; simp only [Typ.cnt, Typ.sz]; omega
theorem Typ.cntL_le' : ∀ l : List Typ, Typ.cntL l ≤ 2 * l.length + 2 * Typ.szS l
  | [] => by simp [Typ.cntL]
  | c :: cs => by have h1 := Typ.cnt_le c; have h2 := Typ.cntL_le' cs; simp only [Typ.cntL, Typ.szS, List.length_cons]; omega
end
mutual
theorem Term.cnt_le : ∀ c : Term, c.cnt ≤ 5 + 5 * c.sz
  | .mk x0 x1 x2 (.mk y0 y1 y2) x4 x5 => by have h1 := Typ.cntL_le' y2; have := Term.cntL_le' x5; simp only [Term.cnt, Term.sz, Typ.sz]; omega
theorem Term.cntL_le' : ∀ l : List Term, Term.cntL l ≤ 5 * l.length + 5 * Term.szS l
  | [] => by simp [Term.cntL]
  | c :: cs => by have h1 := Term.cnt_le c; have h2 := Term.cntL_le' cs; simp only [Term.cntL, Term.szS, List.length_cons]; omega
end
theorem Constructor.cntL_le' : ∀ l : List Constructor, Constructor.cntL l ≤ l.length + 2 * Constructor.szS l
  | [] => by simp [Constructor.cntL]
  | .mk x0 x1 :: cs => by have h1 := Typ.cntL_le' x1; have h2 := Constructor.cntL_le' cs; simp only [Constructor.szS, List.map_cons, List.sum_cons] at h2 ⊢; simp only [Constructor.cntL, Constructor.cnt, Constructor.sz, List.length_cons]; omega
theorem Dat.cntL_le' : ∀ l : List Dat, Dat.cntL l ≤ l.length + 2 * Dat.szS l
  | [] => by simp [Dat.cntL]
  | .mk x0 x1 :: cs => by have h1 := Constructor.cntL_le' x1; have h2 := Dat.cntL_le' cs; simp only [Dat.szS, List.map_cons, List.sum_cons] at h2 ⊢; simp only [Dat.cntL, Dat.cnt, Dat.sz, List.length_cons]; omega
theorem Def.cntL_le' : ∀ l : List Def, Def.cntL l ≤ 8 * l.length + 5 * Def.szS l
  | [] => by simp [Def.cntL]
  | .mk x0 (.mk x1_0 x1_1 x1_2) (.mk x2_0 x2_1 x2_2 (.mk x2_3_0 x2_3_1 x2_3_2) x2_4 x2_5) :: cs => by
    have h1 := Typ.cntL_le' x1_2; have h3 := Typ.cntL_le' x2_3_2; have h4 := Term.cntL_le' x2_5; have h2 := Def.cntL_le' cs
    simp only [Def.szS, List.map_cons, List.sum_cons] at h2 ⊢; simp only [Def.cntL, Def.cnt, Def.sz, Typ.sz, Term.sz, List.length_cons]; omega
theorem repP_ok {p : Prg} {d : Def} (ho : p.ok) (hd : d.ok) (hs : p.sz + d.sz ≤ 1048576) {q : Prg} {c : Int} (h : repP p d = (q, c)) : q.ok ∧ q.sz ≤ 1048576 := by
  obtain ⟨das, ds⟩ := p
  have h0 : (Prg.mk [] []).ok ∧ (Prg.mk [] []).sz ≤ 1048576 := by simp [Prg.ok, Prg.sz, Dat.okS, Def.okS, Dat.szS, Def.szS]
  unfold repP at h
  simp only at h
  split at h
  · split at h
    · cases h; exact h0
    · rename_i c1
      split at h
      · cases h
        obtain ⟨k, hk, ek⟩ := idxF_nn c1
        have ek : namedF ds (Def.nm d) = (k : Int) := ek
        rw [ek, Int.toNat_natCast]
        have := Prg.sz_set (das := das) (d := d) hk
        exact ⟨Prg.ok_set ho hd, by omega⟩
      · cases h; exact h0
  · cases h; exact h0
/-! ### Looking at trees -/
theorem Fb.ol {H : Nat → Option Ob} {T' : List TE} {ds es : List D} {T : List TE} (h : OL O1 ds es T) (hT : ∀ te ∈ T, te ∈ T') : Fb H T' (.ag es) (.ag ds) := by
  refine .ag es ds h.len ?_
  induction h with
  | nil => intro i d e hd; simp at hd
  | @cons d e T1 ds es T2 h _ ih =>
    intro i a b ha hb
    cases i with
    | zero =>
      simp at ha hb; subst ha; subst hb
      cases h with
      | sc v => exact .fz (.cl _ (.sc v))
      | sl sz rows a n c F => exact .tr ⟨.slice a n c, .sl sz rows, F⟩ (hT _ (by simp))
    | succ i => exact ih (fun te k => hT te (List.mem_append_right _ k)) i a b (by simpa using ha) (by simpa using hb)
theorem callK_look {P : Program} {s : St} {f : FuncId} {first caps args : List D} {dst : Option Nat} {K : St → Prop} (bs : List D) (r : D) (h : Sp P f bs r) (hl : bs.length = (first ++ args ++ caps).length)
    (hfb : ∀ x ∈ (first ++ args ++ caps).zip bs, Fb s.H s.T x.1 x.2) (hdet : (detD r).isSome = true) (hK : K (s.put dst r)) : callK P s (.fn f first caps) args dst K :=
  .inl ⟨r, .inr ⟨bs, hl, fb_zip hfb, h, hdet⟩, hK⟩
theorem def_open {dn : ByteArray} {tk : Int} {tn : ByteArray} {tks : List Typ} {bk bv : Int} {bn : ByteArray} {uk : Int} {un : ByteArray} {uks : List Typ} {ns : List ByteArray} {ks : List Term} {e : D} {T : List TE}
    (h : O3 (.ag [S dn, I tk, S tn, .sl 3 (Typ.dsL tks), I bk, I bv, S bn, I uk, S un, .sl 3 (Typ.dsL uks), .sl 1 (ns.map fun s => [S s]), .sl 8 (Term.dsL ks)]) e T) :
    ∃ a3 n3 c3 F3 a4 n4 c4 F4 a5 n5 c5 F5 a6 n6 c6 F6, e = .ag [S dn, I tk, S tn, .sc (.slice a3 n3 c3), I bk, I bv, S bn, I uk, S un, .sc (.slice a4 n4 c4), .sc (.slice a5 n5 c5), .sc (.slice a6 n6 c6)] ∧
      T = [⟨.slice a3 n3 c3, .sl 3 (Typ.dsL tks), F3⟩, ⟨.slice a4 n4 c4, .sl 3 (Typ.dsL uks), F4⟩, ⟨.slice a5 n5 c5, .sl 1 (ns.map fun s => [S s]), F5⟩, ⟨.slice a6 n6 c6, .sl 8 (Term.dsL ks), F6⟩] := by
  obtain ⟨es, rfl, ho⟩ := o3_ag h
  iterate 3 (rw [ol_sc] at ho; obtain ⟨_, rfl, ho⟩ := ho)
  rw [ol_sl] at ho
  obtain ⟨a3, n3, c3, F3, _, _, rfl, rfl, ho⟩ := ho
  iterate 5 (rw [ol_sc] at ho; obtain ⟨_, rfl, ho⟩ := ho)
  rw [ol_sl] at ho
  obtain ⟨a4, n4, c4, F4, _, _, rfl, rfl, ho⟩ := ho
  rw [ol_sl] at ho
  obtain ⟨a5, n5, c5, F5, _, _, rfl, rfl, ho⟩ := ho
  rw [ol_sl] at ho
  obtain ⟨a6, n6, c6, F6, _, _, rfl, rfl, ho⟩ := ho
  rw [ol_nil] at ho
  obtain ⟨rfl, rfl⟩ := ho
  exact ⟨a3, n3, c3, F3, a4, n4, c4, F4, a5, n5, c5, F5, a6, n6, c6, F6, rfl, rfl⟩
theorem rep_open {qd : List Dat} {qs : List Def} {c : Int} {e : D} {T : List TE} (h : O3 (.tp [.ag [.sl 2 (Dat.dsL qd), .sl 12 (Def.dsL qs)], I c]) e T) :
    ∃ a7 n7 c7 F7 a8 n8 c8 F8, e = .tp [.ag [.sc (.slice a7 n7 c7), .sc (.slice a8 n8 c8)], I c] ∧ T = [⟨.slice a7 n7 c7, .sl 2 (Dat.dsL qd), F7⟩, ⟨.slice a8 n8 c8, .sl 12 (Def.dsL qs), F8⟩] := by
  obtain ⟨es, rfl, ho⟩ := o3_tp_ag_sc h
  rw [ol_sl] at ho
  obtain ⟨a1, n1, c1, F1, es1, T1, rfl, rfl, ho⟩ := ho
  rw [ol_sl] at ho
  obtain ⟨a2, n2, c2, F2, es2, T2, rfl, rfl, ho⟩ := ho
  rw [ol_nil] at ho
  obtain ⟨rfl, rfl⟩ := ho
  exact ⟨a1, n1, c1, F1, a2, n2, c2, F2, rfl, rfl⟩
open Classical in
theorem lawReplaceDef (p : Prg) (d : Def) (ho : p.ok) (hd : d.ok) : Sp Tryz.prog 3 [.ag p.ds, .ag d.ds] (B true) := by
  have hs1 := szProgram p 1048576 (by omega) (by omega) ho
  have hpc := Prg.cl p
  have hdc := Def.cl d
  have hd12 := Def.ds_len d
  have hdt : List.take 12 d.ds = d.ds := List.take_of_length_le (by omega)
  obtain ⟨⟨⟨qd, qs⟩, c⟩, hq⟩ : ∃ x, repP p d = x := ⟨_, rfl⟩
  have hR : repR p d = .tp [.ag [.sl 2 (Dat.dsL qd), .sl 12 (Def.dsL qs)], I c] := by unfold repR; rw [hq]; rfl
  obtain ⟨das, ds⟩ := p
  obtain ⟨dn, tk, tn, tks, bk, bv, bn, uk, un, uks, ns, ks, hde⟩ : ∃ dn tk tn tks bk bv bn uk un uks ns ks, d = Def.mk dn (.mk tk tn tks) (.mk bk bv bn (.mk uk un uks) ns ks) := by
    obtain ⟨dn, ⟨tk, tn, tks⟩, ⟨bk, bv, bn, ⟨uk, un, uks⟩, ns, ks⟩⟩ := d
    exact ⟨_, _, _, _, _, _, _, _, _, _, _, _, rfl⟩
  have hdd : d.ds = [S dn, I tk, S tn, .sl 3 (Typ.dsL tks), I bk, I bv, S bn, I uk, S un, .sl 3 (Typ.dsL uks), .sl 1 (ns.map fun s => [S s]), .sl 8 (Term.dsL ks)] := by rw [hde]; simp [Def.ds, Typ.ds, Term.ds, strs]
  simp only [Prg.ds, Dat.sl, Def.sl] at hs1 hpc
  refine Sp.of_vc [] [.tmp 4] Tryz.func3 rfl (by kernel_rfl) Tryz.ntmps3 rfl (by simp) ?_
  simp only [Prg.ds, Dat.sl, Def.sl, hd12, hdt, go_sem, ↓reduceIte, reduceCtorEq, Nat.reduceLT, Nat.reduceEqDiff, Nat.reduceBEq, Nat.reduceAdd, Nat.reduceMul, Nat.reduceSub, Nat.reduceLeDiff, List.reduceReplicate]
  refine callK_intro _ hs1 (by simpa using hpc) ?_
  by_cases s1 : ((Prg.mk das ds).sz : Int) ≤ 1048576
  case neg =>
    have d1 : decide ((-1 : Int) < 0) = true := rfl
    simp only [szF_neg s1, d1, go_sem, ↓reduceIte, reduceCtorEq, Nat.reduceLT, Nat.reduceEqDiff, Nat.reduceBEq, Nat.reduceAdd, Nat.reduceMul, Nat.reduceSub, Nat.reduceLeDiff, List.reduceReplicate]
    exact Fz.bool rfl
  have d1 : decide ((1048576 : Int) - (Prg.mk das ds).sz < 0) = false := by simp; omega
  have hs2 := szDef d (1048576 - (Prg.mk das ds).sz) (by omega) (by omega) hd
  simp only [szF_pos s1, d1, hd12, hdt, go_sem, ↓reduceIte, reduceCtorEq, Nat.reduceLT, Nat.reduceEqDiff, Nat.reduceBEq, Nat.reduceAdd, Nat.reduceMul, Nat.reduceSub, Nat.reduceLeDiff, List.reduceReplicate]
  refine callK_intro _ hs2 (by simpa using hdc) ?_
  by_cases s2 : (d.sz : Int) ≤ 1048576 - (Prg.mk das ds).sz
  case neg =>
    have d2 : decide ((-1 : Int) < 0) = true := rfl
    simp only [szF_neg s2, d2, go_sem, ↓reduceIte, reduceCtorEq, Nat.reduceLT, Nat.reduceEqDiff, Nat.reduceBEq, Nat.reduceAdd, Nat.reduceMul, Nat.reduceSub, Nat.reduceLeDiff, List.reduceReplicate]
    exact Fz.bool rfl
  have d2 : decide ((1048576 : Int) - (Prg.mk das ds).sz - d.sz < 0) = false := by simp; omega
  have hsz : (Prg.mk das ds).sz + d.sz ≤ 1048576 := by omega
  obtain ⟨hqo, hqs⟩ := repP_ok ho hd hsz hq
  have hspec := (specReplaceDef (.mk das ds) d hsz ho hd _ hR).sp
  have himpl := replaceDef (.mk das ds) d hsz ho hd _ hR
  have htp := toProgram (.mk das ds) (by omega)
  have htd := toDef d (by omega)
  have htpG := toProgramG (.mk das ds) (by omega)
  have htdG := toDefG d (by omega)
  have hep := eqProgram (.mk das ds) (.mk das ds) ho
  have hed := eqDef d d hd
  have heq := eqProgram (.mk qd qs) (.mk qd qs) hqo
  simp only [Prg.ds, Dat.sl, Def.sl] at hspec himpl htp htpG hep heq
  have cds := Dat.clL das
  have cdf := Def.clL ds
  have cqs := Dat.clL qd
  have cqf := Def.clL qs
  simp only [szF_pos s2, d2, hd12, hdt, go_sem, ↓reduceIte, reduceCtorEq, Nat.reduceLT, Nat.reduceEqDiff, Nat.reduceBEq, Nat.reduceAdd, Nat.reduceMul, Nat.reduceSub, Nat.reduceLeDiff, List.reduceReplicate]
  refine drawM_intro (fun t => if t = 29 then (false, .ag [.sl 2 (Dat.dsL das), .sl 12 (Def.dsL ds)]) else if t = 31 then (false, .ag d.ds) else (false, .tp [.ag [.sl 2 (Dat.dsL qd), .sl 12 (Def.dsL qs)], I c])) [28, 30] mixed (by kernel_rfl) ?_
  simp only [hd12, hdt, go_sem, ↓reduceIte, reduceCtorEq, Nat.reduceLT, Nat.reduceEqDiff, Nat.reduceBEq, Nat.reduceAdd, Nat.reduceMul, Nat.reduceSub, Nat.reduceLeDiff, List.reduceReplicate]
  refine callM_sp _ rfl htp (by simpa using hpc) ?_
  simp only [hd12, hdt, go_sem, ↓reduceIte, reduceCtorEq, Nat.reduceLT, Nat.reduceEqDiff, Nat.reduceBEq, Nat.reduceAdd, Nat.reduceMul, Nat.reduceSub, Nat.reduceLeDiff, List.reduceReplicate]
  refine callM_sp _ rfl htd (by simpa using hdc) ?_
  simp only [hd12, hdt, go_sem, ↓reduceIte, reduceCtorEq, Nat.reduceLT, Nat.reduceEqDiff, Nat.reduceBEq, Nat.reduceAdd, Nat.reduceMul, Nat.reduceSub, Nat.reduceLeDiff, List.reduceReplicate]
  refine callM_sp _ rfl hspec (by simp; exact ⟨⟨cds, cdf⟩, hdc⟩) ?_
  simp only [hd12, hdt, go_sem, ↓reduceIte, reduceCtorEq, Nat.reduceLT, Nat.reduceEqDiff, Nat.reduceBEq, Nat.reduceAdd, Nat.reduceMul, Nat.reduceSub, Nat.reduceLeDiff, List.reduceReplicate]
  have et : (!true) = false := rfl
  have hep : Sp Tryz.prog 11 [.ag [.sl 2 (Dat.dsL das), .sl 12 (Def.dsL ds)], .ag [.sl 2 (Dat.dsL das), .sl 12 (Def.dsL ds)]] (B true) := by simpa using hep
  have heq : Sp Tryz.prog 11 [.ag [.sl 2 (Dat.dsL qd), .sl 12 (Def.dsL qs)], .ag [.sl 2 (Dat.dsL qd), .sl 12 (Def.dsL qs)]] (B true) := by simpa using heq
  have hed : Sp Tryz.prog 12 [.ag d.ds, .ag d.ds] (B true) := by simpa using hed
  have hqs' := hqs
  have hsz' := hsz
  rw [hde] at hsz'
  simp only [Prg.sz, Def.sz, Typ.sz, Term.sz] at hsz' hqs'
  have b1 := Dat.cntL_le' das
  have b2 := Def.cntL_le' ds
  have b3 := Typ.cntL_le' tks
  have b4 := Typ.cntL_le' uks
  have b5 := Term.cntL_le' ks
  have b6 := Dat.cntL_le' qd
  have b7 := Def.cntL_le' qs
  have ke : (c != c) = false := by simp
  have k1 : decide ((((1 : Int) + (Dat.cntL das : Nat) + (Def.cntL ds : Nat)) + (Typ.cntL tks : Nat) + (Typ.cntL uks : Nat) + (ns.length : Nat) + (Term.cntL ks : Nat)) < 0) = false := by simp only [decide_eq_false_iff_not]; omega
  have k2 : decide (((1 : Int) + (Dat.cntL qd : Nat) + (Def.cntL qs : Nat)) < 0) = false := by simp only [decide_eq_false_iff_not]; omega
  have k3 : (((1 : Int) + (Dat.cntL qd : Nat) + (Def.cntL qs : Nat)) != ((1 : Int) + (Dat.cntL qd : Nat) + (Def.cntL qs : Nat))) = false := by simp
  refine callK_new _ htpG (by simpa using hpc) ?_
  intro e T hO
  obtain ⟨a1, n1, c1, F1, a2, n2, c2, F2, rfl, rfl⟩ := prg_open hO
  simp only [hd12, hdt, et, ke, k1, k2, k3, go_sem, ↓reduceIte, reduceCtorEq, Nat.reduceLT, Nat.reduceEqDiff, Nat.reduceBEq, Nat.reduceAdd, Nat.reduceMul, Nat.reduceSub, Nat.reduceLeDiff, List.reduceReplicate]
  refine callK_new _ htdG (by simpa using hdc) ?_
  intro e T hO
  rw [hdd] at hO
  obtain ⟨a3, n3, c3, F3, a4, n4, c4, F4, a5, n5, c5, F5, a6, n6, c6, F6, rfl, rfl⟩ := def_open hO
  have ox : OL O1 [.sl 2 (Dat.dsL das), .sl 12 (Def.dsL ds)] [.sc (.slice a1 n1 c1), .sc (.slice a2 n2 c2)] [⟨.slice a1 n1 c1, .sl 2 (Dat.dsL das), F1⟩, ⟨.slice a2 n2 c2, .sl 12 (Def.dsL ds), F2⟩] := OL.tr' (OL.tr' .nil)
  have oy : OL O1 d.ds [S dn, I tk, S tn, .sc (.slice a3 n3 c3), I bk, I bv, S bn, I uk, S un, .sc (.slice a4 n4 c4), .sc (.slice a5 n5 c5), .sc (.slice a6 n6 c6)] [⟨.slice a3 n3 c3, .sl 3 (Typ.dsL tks), F3⟩, ⟨.slice a4 n4 c4, .sl 3 (Typ.dsL uks), F4⟩, ⟨.slice a5 n5 c5, .sl 1 (ns.map fun s => [S s]), F5⟩, ⟨.slice a6 n6 c6, .sl 8 (Term.dsL ks), F6⟩] := by rw [hdd]; exact OL.sc' (OL.sc' (OL.sc' (OL.tr' (OL.sc' (OL.sc' (OL.sc' (OL.sc' (OL.sc' (OL.tr' (OL.tr' (OL.tr' .nil)))))))))))
  simp only [hd12, hdt, et, ke, k1, k2, k3, go_sem, ↓reduceIte, reduceCtorEq, Nat.reduceLT, Nat.reduceEqDiff, Nat.reduceBEq, Nat.reduceAdd, Nat.reduceMul, Nat.reduceSub, Nat.reduceLeDiff, List.reduceReplicate]
  refine callK_read [.ag [.sl 2 (Dat.dsL das), .sl 12 (Def.dsL ds)], .ag d.ds] _ himpl rfl (by simp only [List.nil_append, List.append_nil, List.cons_append, List.zip_cons_cons, List.zip_nil_right, List.forall_mem_cons]; exact ⟨Fb.ol ox (by simp), Fb.ol oy (by simp), by simp⟩) ?_
  intro e T hO
  obtain ⟨a7, n7, c7, F7, a8, n8, c8, F8, rfl, rfl⟩ := rep_open hO
  have og : OL O1 [.sl 2 (Dat.dsL qd), .sl 12 (Def.dsL qs)] [.sc (.slice a7 n7 c7), .sc (.slice a8 n8 c8)] [⟨.slice a7 n7 c7, .sl 2 (Dat.dsL qd), F7⟩, ⟨.slice a8 n8 c8, .sl 12 (Def.dsL qs), F8⟩] := OL.tr' (OL.tr' .nil)
  have om : OL O1 [.sl 2 (Dat.dsL (Dat.markL qd 1)), .sl 12 (Def.dsL (Def.markL qs (1 + (Dat.cntL qd : Nat))))] [.sc (.slice a7 n7 c7), .sc (.slice a8 n8 c8)] [⟨.slice a7 n7 c7, .sl 2 (Dat.dsL (Dat.markL qd 1)), F7⟩, ⟨.slice a8 n8 c8, .sl 12 (Def.dsL (Def.markL qs (1 + (Dat.cntL qd : Nat)))), F8⟩] := OL.tr' (OL.tr' .nil)
  have cq : Cl (.ag [.sl 2 (Dat.dsL qd), .sl 12 (Def.dsL qs)]) := Cl.ag' (by simp; exact ⟨cqs, cqf⟩)
  have cp : Cl (.ag [.sl 2 (Dat.dsL das), .sl 12 (Def.dsL ds)]) := Cl.ag' (by simp; exact ⟨cds, cdf⟩)
  have cd : Cl (.ag d.ds) := Cl.ag' hdc
  have hmp := markProgram das ds 1 (by omega) (by omega) a1 n1 c1 F1 a2 n2 c2 F2
  have hmd := markDef dn tk tn tks bk bv bn uk un uks ns ks ((1 : Int) + (Dat.cntL das : Nat) + (Def.cntL ds : Nat)) (by omega) (by omega) a3 n3 c3 F3 a4 n4 c4 F4 a5 n5 c5 F5 a6 n6 c6 F6
  have hmg := markProgram qd qs 1 (by omega) (by omega) a7 n7 c7 F7 a8 n8 c8 F8
  have hhg := heldProgram qd qs 1 (by omega) (by omega)
  simp only [Dat.sl, Def.sl, Typ.sl, Term.sl, strs] at hmp hmd hmg hhg
  simp only [hd12, hdt, et, ke, k1, k2, k3, go_sem, ↓reduceIte, reduceCtorEq, Nat.reduceLT, Nat.reduceEqDiff, Nat.reduceBEq, Nat.reduceAdd, Nat.reduceMul, Nat.reduceSub, Nat.reduceLeDiff, List.reduceReplicate]
  refine callK_look [.ag [.sl 2 (Dat.dsL qd), .sl 12 (Def.dsL qs)], .ag [.sl 2 (Dat.dsL qd), .sl 12 (Def.dsL qs)]] _ heq rfl (by simp only [List.nil_append, List.append_nil, List.cons_append, List.zip_cons_cons, List.zip_nil_right, List.forall_mem_cons]; exact ⟨Fb.ol og (by simp), .fz (.cl _ cq), by simp⟩) rfl ?_
  simp only [hd12, hdt, et, ke, k1, k2, k3, go_sem, ↓reduceIte, reduceCtorEq, Nat.reduceLT, Nat.reduceEqDiff, Nat.reduceBEq, Nat.reduceAdd, Nat.reduceMul, Nat.reduceSub, Nat.reduceLeDiff, List.reduceReplicate]
  refine drawK_intro mixed (by kernel_rfl) ?_
  refine callQ_intro _ htp (by simpa using hpc) rfl ?_
  simp only [hd12, hdt, et, ke, k1, k2, k3, go_sem, ↓reduceIte, reduceCtorEq, Nat.reduceLT, Nat.reduceEqDiff, Nat.reduceBEq, Nat.reduceAdd, Nat.reduceMul, Nat.reduceSub, Nat.reduceLeDiff, List.reduceReplicate]
  refine callQ_read [.ag [.sl 2 (Dat.dsL das), .sl 12 (Def.dsL ds)], .ag [.sl 2 (Dat.dsL das), .sl 12 (Def.dsL ds)]] _ hep rfl (by simp only [List.nil_append, List.append_nil, List.cons_append, List.zip_cons_cons, List.zip_nil_right, List.forall_mem_cons]; exact ⟨Fb.ol ox (by simp), .fz (.cl _ cp), by simp⟩) rfl ?_
  simp only [hd12, hdt, et, ke, k1, k2, k3, go_sem, ↓reduceIte, reduceCtorEq, Nat.reduceLT, Nat.reduceEqDiff, Nat.reduceBEq, Nat.reduceAdd, Nat.reduceMul, Nat.reduceSub, Nat.reduceLeDiff, List.reduceReplicate]
  refine drawK_intro mixed (by kernel_rfl) ?_
  refine callQ_intro _ htd (by simpa using hdc) rfl ?_
  simp only [hd12, hdt, et, ke, k1, k2, k3, go_sem, ↓reduceIte, reduceCtorEq, Nat.reduceLT, Nat.reduceEqDiff, Nat.reduceBEq, Nat.reduceAdd, Nat.reduceMul, Nat.reduceSub, Nat.reduceLeDiff, List.reduceReplicate]
  refine callQ_read [.ag d.ds, .ag d.ds] _ hed rfl (by simp only [List.nil_append, List.append_nil, List.cons_append, List.zip_cons_cons, List.zip_nil_right, List.forall_mem_cons]; exact ⟨Fb.ol oy (by simp), .fz (.cl _ cd), by simp⟩) rfl ?_
  simp only [hd12, hdt, et, ke, k1, k2, k3, go_sem, ↓reduceIte, reduceCtorEq, Nat.reduceLT, Nat.reduceEqDiff, Nat.reduceBEq, Nat.reduceAdd, Nat.reduceMul, Nat.reduceSub, Nat.reduceLeDiff, List.reduceReplicate]
  refine callK_mark [⟨.slice a1 n1 c1, .sl 2 (Dat.dsL das), F1⟩, ⟨.slice a2 n2 c2, .sl 12 (Def.dsL ds), F2⟩] [⟨.slice a3 n3 c3, .sl 3 (Typ.dsL tks), F3⟩, ⟨.slice a4 n4 c4, .sl 3 (Typ.dsL uks), F4⟩, ⟨.slice a5 n5 c5, .sl 1 (ns.map fun s => [S s]), F5⟩, ⟨.slice a6 n6 c6, .sl 8 (Term.dsL ks), F6⟩, ⟨.slice a7 n7 c7, .sl 2 (Dat.dsL qd), F7⟩, ⟨.slice a8 n8 c8, .sl 12 (Def.dsL qs), F8⟩] [⟨.slice a1 n1 c1, .sl 2 (Dat.dsL (Dat.markL das 1)), F1⟩, ⟨.slice a2 n2 c2, .sl 12 (Def.dsL (Def.markL ds (1 + (Dat.cntL das : Nat)))), F2⟩, ⟨.slice a3 n3 c3, .sl 3 (Typ.dsL tks), F3⟩, ⟨.slice a4 n4 c4, .sl 3 (Typ.dsL uks), F4⟩, ⟨.slice a5 n5 c5, .sl 1 (ns.map fun s => [S s]), F5⟩, ⟨.slice a6 n6 c6, .sl 8 (Term.dsL ks), F6⟩, ⟨.slice a7 n7 c7, .sl 2 (Dat.dsL qd), F7⟩, ⟨.slice a8 n8 c8, .sl 12 (Def.dsL qs), F8⟩] [.sl 2 (Dat.dsL (Dat.markL das 1)), .sl 12 (Def.dsL (Def.markL ds (1 + (Dat.cntL das : Nat))))] (.int .i64 ((1 : Int) + (Dat.cntL das : Nat) + (Def.cntL ds : Nat))) ?_ ?_ ?_ ?_ ?_
  · simpa only [List.nil_append, List.append_nil, List.cons_append] using hmp
  · simp
  · have := permB ([] : List TE) [⟨.slice a1 n1 c1, .sl 2 (Dat.dsL das), F1⟩, ⟨.slice a2 n2 c2, .sl 12 (Def.dsL ds), F2⟩] [⟨.slice a3 n3 c3, .sl 3 (Typ.dsL tks), F3⟩, ⟨.slice a4 n4 c4, .sl 3 (Typ.dsL uks), F4⟩, ⟨.slice a5 n5 c5, .sl 1 (ns.map fun s => [S s]), F5⟩, ⟨.slice a6 n6 c6, .sl 8 (Term.dsL ks), F6⟩, ⟨.slice a7 n7 c7, .sl 2 (Dat.dsL qd), F7⟩, ⟨.slice a8 n8 c8, .sl 12 (Def.dsL qs), F8⟩]; simp only [upT, List.append_assoc, List.cons_append, List.nil_append] at this ⊢; exact this
  · have := permB ([] : List TE) [⟨.slice a1 n1 c1, .sl 2 (Dat.dsL (Dat.markL das 1)), F1⟩, ⟨.slice a2 n2 c2, .sl 12 (Def.dsL (Def.markL ds (1 + (Dat.cntL das : Nat)))), F2⟩] [⟨.slice a3 n3 c3, .sl 3 (Typ.dsL tks), F3⟩, ⟨.slice a4 n4 c4, .sl 3 (Typ.dsL uks), F4⟩, ⟨.slice a5 n5 c5, .sl 1 (ns.map fun s => [S s]), F5⟩, ⟨.slice a6 n6 c6, .sl 8 (Term.dsL ks), F6⟩, ⟨.slice a7 n7 c7, .sl 2 (Dat.dsL qd), F7⟩, ⟨.slice a8 n8 c8, .sl 12 (Def.dsL qs), F8⟩]; simp only [upT, List.append_assoc, List.cons_append, List.nil_append] at this ⊢; exact this
  simp only [hd12, hdt, et, ke, k1, k2, k3, go_sem, ↓reduceIte, reduceCtorEq, Nat.reduceLT, Nat.reduceEqDiff, Nat.reduceBEq, Nat.reduceAdd, Nat.reduceMul, Nat.reduceSub, Nat.reduceLeDiff, List.reduceReplicate]
  refine callK_mark [⟨.slice a3 n3 c3, .sl 3 (Typ.dsL tks), F3⟩, ⟨.slice a4 n4 c4, .sl 3 (Typ.dsL uks), F4⟩, ⟨.slice a5 n5 c5, .sl 1 (ns.map fun s => [S s]), F5⟩, ⟨.slice a6 n6 c6, .sl 8 (Term.dsL ks), F6⟩] [⟨.slice a1 n1 c1, .sl 2 (Dat.dsL (Dat.markL das 1)), F1⟩, ⟨.slice a2 n2 c2, .sl 12 (Def.dsL (Def.markL ds (1 + (Dat.cntL das : Nat)))), F2⟩, ⟨.slice a7 n7 c7, .sl 2 (Dat.dsL qd), F7⟩, ⟨.slice a8 n8 c8, .sl 12 (Def.dsL qs), F8⟩] [⟨.slice a1 n1 c1, .sl 2 (Dat.dsL (Dat.markL das 1)), F1⟩, ⟨.slice a2 n2 c2, .sl 12 (Def.dsL (Def.markL ds (1 + (Dat.cntL das : Nat)))), F2⟩, ⟨.slice a3 n3 c3, .sl 3 (Typ.dsL (Typ.markL tks ((1 : Int) + (Dat.cntL das : Nat) + (Def.cntL ds : Nat)))), F3⟩, ⟨.slice a4 n4 c4, .sl 3 (Typ.dsL (Typ.markL uks (((1 : Int) + (Dat.cntL das : Nat) + (Def.cntL ds : Nat)) + (Typ.cntL tks : Nat)))), F4⟩, ⟨.slice a5 n5 c5, .sl 1 ((markStr ns (((1 : Int) + (Dat.cntL das : Nat) + (Def.cntL ds : Nat)) + (Typ.cntL tks : Nat) + (Typ.cntL uks : Nat))).map fun s => [S s]), F5⟩, ⟨.slice a6 n6 c6, .sl 8 (Term.dsL (Term.markL ks (((1 : Int) + (Dat.cntL das : Nat) + (Def.cntL ds : Nat)) + (Typ.cntL tks : Nat) + (Typ.cntL uks : Nat) + (ns.length : Nat)))), F6⟩, ⟨.slice a7 n7 c7, .sl 2 (Dat.dsL qd), F7⟩, ⟨.slice a8 n8 c8, .sl 12 (Def.dsL qs), F8⟩] [.sl 3 (Typ.dsL (Typ.markL tks ((1 : Int) + (Dat.cntL das : Nat) + (Def.cntL ds : Nat)))), .sl 3 (Typ.dsL (Typ.markL uks (((1 : Int) + (Dat.cntL das : Nat) + (Def.cntL ds : Nat)) + (Typ.cntL tks : Nat)))), .sl 1 ((markStr ns (((1 : Int) + (Dat.cntL das : Nat) + (Def.cntL ds : Nat)) + (Typ.cntL tks : Nat) + (Typ.cntL uks : Nat))).map fun s => [S s]), .sl 8 (Term.dsL (Term.markL ks (((1 : Int) + (Dat.cntL das : Nat) + (Def.cntL ds : Nat)) + (Typ.cntL tks : Nat) + (Typ.cntL uks : Nat) + (ns.length : Nat))))] (.int .i64 (((1 : Int) + (Dat.cntL das : Nat) + (Def.cntL ds : Nat)) + (Typ.cntL tks : Nat) + (Typ.cntL uks : Nat) + (ns.length : Nat) + (Term.cntL ks : Nat))) ?_ ?_ ?_ ?_ ?_
  · simpa only [List.nil_append, List.append_nil, List.cons_append] using hmd
  · simp
  · have := permB ([⟨.slice a1 n1 c1, .sl 2 (Dat.dsL (Dat.markL das 1)), F1⟩, ⟨.slice a2 n2 c2, .sl 12 (Def.dsL (Def.markL ds (1 + (Dat.cntL das : Nat)))), F2⟩] : List TE) [⟨.slice a3 n3 c3, .sl 3 (Typ.dsL tks), F3⟩, ⟨.slice a4 n4 c4, .sl 3 (Typ.dsL uks), F4⟩, ⟨.slice a5 n5 c5, .sl 1 (ns.map fun s => [S s]), F5⟩, ⟨.slice a6 n6 c6, .sl 8 (Term.dsL ks), F6⟩] [⟨.slice a7 n7 c7, .sl 2 (Dat.dsL qd), F7⟩, ⟨.slice a8 n8 c8, .sl 12 (Def.dsL qs), F8⟩]; simp only [upT, List.append_assoc, List.cons_append, List.nil_append] at this ⊢; exact this
  · have := permB ([⟨.slice a1 n1 c1, .sl 2 (Dat.dsL (Dat.markL das 1)), F1⟩, ⟨.slice a2 n2 c2, .sl 12 (Def.dsL (Def.markL ds (1 + (Dat.cntL das : Nat)))), F2⟩] : List TE) [⟨.slice a3 n3 c3, .sl 3 (Typ.dsL (Typ.markL tks ((1 : Int) + (Dat.cntL das : Nat) + (Def.cntL ds : Nat)))), F3⟩, ⟨.slice a4 n4 c4, .sl 3 (Typ.dsL (Typ.markL uks (((1 : Int) + (Dat.cntL das : Nat) + (Def.cntL ds : Nat)) + (Typ.cntL tks : Nat)))), F4⟩, ⟨.slice a5 n5 c5, .sl 1 ((markStr ns (((1 : Int) + (Dat.cntL das : Nat) + (Def.cntL ds : Nat)) + (Typ.cntL tks : Nat) + (Typ.cntL uks : Nat))).map fun s => [S s]), F5⟩, ⟨.slice a6 n6 c6, .sl 8 (Term.dsL (Term.markL ks (((1 : Int) + (Dat.cntL das : Nat) + (Def.cntL ds : Nat)) + (Typ.cntL tks : Nat) + (Typ.cntL uks : Nat) + (ns.length : Nat)))), F6⟩] [⟨.slice a7 n7 c7, .sl 2 (Dat.dsL qd), F7⟩, ⟨.slice a8 n8 c8, .sl 12 (Def.dsL qs), F8⟩]; simp only [upT, List.append_assoc, List.cons_append, List.nil_append] at this ⊢; exact this
  simp only [hd12, hdt, et, ke, k1, k2, k3, go_sem, ↓reduceIte, reduceCtorEq, Nat.reduceLT, Nat.reduceEqDiff, Nat.reduceBEq, Nat.reduceAdd, Nat.reduceMul, Nat.reduceSub, Nat.reduceLeDiff, List.reduceReplicate]
  refine callK_look [.ag [.sl 2 (Dat.dsL qd), .sl 12 (Def.dsL qs)], .ag [.sl 2 (Dat.dsL qd), .sl 12 (Def.dsL qs)]] _ heq rfl (by simp only [List.nil_append, List.append_nil, List.cons_append, List.zip_cons_cons, List.zip_nil_right, List.forall_mem_cons]; exact ⟨Fb.ol og (by simp), .fz (.cl _ cq), by simp⟩) rfl ?_
  simp only [hd12, hdt, et, ke, k1, k2, k3, go_sem, ↓reduceIte, reduceCtorEq, Nat.reduceLT, Nat.reduceEqDiff, Nat.reduceBEq, Nat.reduceAdd, Nat.reduceMul, Nat.reduceSub, Nat.reduceLeDiff, List.reduceReplicate]
  refine callK_mark [⟨.slice a7 n7 c7, .sl 2 (Dat.dsL qd), F7⟩, ⟨.slice a8 n8 c8, .sl 12 (Def.dsL qs), F8⟩] [⟨.slice a1 n1 c1, .sl 2 (Dat.dsL (Dat.markL das 1)), F1⟩, ⟨.slice a2 n2 c2, .sl 12 (Def.dsL (Def.markL ds (1 + (Dat.cntL das : Nat)))), F2⟩, ⟨.slice a3 n3 c3, .sl 3 (Typ.dsL (Typ.markL tks ((1 : Int) + (Dat.cntL das : Nat) + (Def.cntL ds : Nat)))), F3⟩, ⟨.slice a4 n4 c4, .sl 3 (Typ.dsL (Typ.markL uks (((1 : Int) + (Dat.cntL das : Nat) + (Def.cntL ds : Nat)) + (Typ.cntL tks : Nat)))), F4⟩, ⟨.slice a5 n5 c5, .sl 1 ((markStr ns (((1 : Int) + (Dat.cntL das : Nat) + (Def.cntL ds : Nat)) + (Typ.cntL tks : Nat) + (Typ.cntL uks : Nat))).map fun s => [S s]), F5⟩, ⟨.slice a6 n6 c6, .sl 8 (Term.dsL (Term.markL ks (((1 : Int) + (Dat.cntL das : Nat) + (Def.cntL ds : Nat)) + (Typ.cntL tks : Nat) + (Typ.cntL uks : Nat) + (ns.length : Nat)))), F6⟩] [⟨.slice a1 n1 c1, .sl 2 (Dat.dsL (Dat.markL das 1)), F1⟩, ⟨.slice a2 n2 c2, .sl 12 (Def.dsL (Def.markL ds (1 + (Dat.cntL das : Nat)))), F2⟩, ⟨.slice a3 n3 c3, .sl 3 (Typ.dsL (Typ.markL tks ((1 : Int) + (Dat.cntL das : Nat) + (Def.cntL ds : Nat)))), F3⟩, ⟨.slice a4 n4 c4, .sl 3 (Typ.dsL (Typ.markL uks (((1 : Int) + (Dat.cntL das : Nat) + (Def.cntL ds : Nat)) + (Typ.cntL tks : Nat)))), F4⟩, ⟨.slice a5 n5 c5, .sl 1 ((markStr ns (((1 : Int) + (Dat.cntL das : Nat) + (Def.cntL ds : Nat)) + (Typ.cntL tks : Nat) + (Typ.cntL uks : Nat))).map fun s => [S s]), F5⟩, ⟨.slice a6 n6 c6, .sl 8 (Term.dsL (Term.markL ks (((1 : Int) + (Dat.cntL das : Nat) + (Def.cntL ds : Nat)) + (Typ.cntL tks : Nat) + (Typ.cntL uks : Nat) + (ns.length : Nat)))), F6⟩, ⟨.slice a7 n7 c7, .sl 2 (Dat.dsL (Dat.markL qd 1)), F7⟩, ⟨.slice a8 n8 c8, .sl 12 (Def.dsL (Def.markL qs (1 + (Dat.cntL qd : Nat)))), F8⟩] [.sl 2 (Dat.dsL (Dat.markL qd 1)), .sl 12 (Def.dsL (Def.markL qs (1 + (Dat.cntL qd : Nat))))] (.int .i64 ((1 : Int) + (Dat.cntL qd : Nat) + (Def.cntL qs : Nat))) ?_ ?_ ?_ ?_ ?_
  · simpa only [List.nil_append, List.append_nil, List.cons_append] using hmg
  · simp
  · have := permB ([⟨.slice a1 n1 c1, .sl 2 (Dat.dsL (Dat.markL das 1)), F1⟩, ⟨.slice a2 n2 c2, .sl 12 (Def.dsL (Def.markL ds (1 + (Dat.cntL das : Nat)))), F2⟩, ⟨.slice a3 n3 c3, .sl 3 (Typ.dsL (Typ.markL tks ((1 : Int) + (Dat.cntL das : Nat) + (Def.cntL ds : Nat)))), F3⟩, ⟨.slice a4 n4 c4, .sl 3 (Typ.dsL (Typ.markL uks (((1 : Int) + (Dat.cntL das : Nat) + (Def.cntL ds : Nat)) + (Typ.cntL tks : Nat)))), F4⟩, ⟨.slice a5 n5 c5, .sl 1 ((markStr ns (((1 : Int) + (Dat.cntL das : Nat) + (Def.cntL ds : Nat)) + (Typ.cntL tks : Nat) + (Typ.cntL uks : Nat))).map fun s => [S s]), F5⟩, ⟨.slice a6 n6 c6, .sl 8 (Term.dsL (Term.markL ks (((1 : Int) + (Dat.cntL das : Nat) + (Def.cntL ds : Nat)) + (Typ.cntL tks : Nat) + (Typ.cntL uks : Nat) + (ns.length : Nat)))), F6⟩] : List TE) [⟨.slice a7 n7 c7, .sl 2 (Dat.dsL qd), F7⟩, ⟨.slice a8 n8 c8, .sl 12 (Def.dsL qs), F8⟩] []; simp only [upT, List.append_assoc, List.cons_append, List.nil_append] at this ⊢; exact this
  · have := permB ([⟨.slice a1 n1 c1, .sl 2 (Dat.dsL (Dat.markL das 1)), F1⟩, ⟨.slice a2 n2 c2, .sl 12 (Def.dsL (Def.markL ds (1 + (Dat.cntL das : Nat)))), F2⟩, ⟨.slice a3 n3 c3, .sl 3 (Typ.dsL (Typ.markL tks ((1 : Int) + (Dat.cntL das : Nat) + (Def.cntL ds : Nat)))), F3⟩, ⟨.slice a4 n4 c4, .sl 3 (Typ.dsL (Typ.markL uks (((1 : Int) + (Dat.cntL das : Nat) + (Def.cntL ds : Nat)) + (Typ.cntL tks : Nat)))), F4⟩, ⟨.slice a5 n5 c5, .sl 1 ((markStr ns (((1 : Int) + (Dat.cntL das : Nat) + (Def.cntL ds : Nat)) + (Typ.cntL tks : Nat) + (Typ.cntL uks : Nat))).map fun s => [S s]), F5⟩, ⟨.slice a6 n6 c6, .sl 8 (Term.dsL (Term.markL ks (((1 : Int) + (Dat.cntL das : Nat) + (Def.cntL ds : Nat)) + (Typ.cntL tks : Nat) + (Typ.cntL uks : Nat) + (ns.length : Nat)))), F6⟩] : List TE) [⟨.slice a7 n7 c7, .sl 2 (Dat.dsL (Dat.markL qd 1)), F7⟩, ⟨.slice a8 n8 c8, .sl 12 (Def.dsL (Def.markL qs (1 + (Dat.cntL qd : Nat)))), F8⟩] []; simp only [upT, List.append_assoc, List.cons_append, List.nil_append] at this ⊢; exact this
  simp only [hd12, hdt, et, ke, k1, k2, k3, go_sem, ↓reduceIte, reduceCtorEq, Nat.reduceLT, Nat.reduceEqDiff, Nat.reduceBEq, Nat.reduceAdd, Nat.reduceMul, Nat.reduceSub, Nat.reduceLeDiff, List.reduceReplicate]
  refine callK_look [.ag [.sl 2 (Dat.dsL (Dat.markL qd 1)), .sl 12 (Def.dsL (Def.markL qs (1 + (Dat.cntL qd : Nat))))], I 1] _ hhg rfl (by simp only [List.nil_append, List.append_nil, List.cons_append, List.zip_cons_cons, List.zip_nil_right, List.forall_mem_cons]; exact ⟨Fb.ol om (by simp), .fz (.cl _ (.sc _)), by simp⟩) rfl ?_
  simp only [hd12, hdt, et, ke, k1, k2, k3, go_sem, ↓reduceIte, reduceCtorEq, Nat.reduceLT, Nat.reduceEqDiff, Nat.reduceBEq, Nat.reduceAdd, Nat.reduceMul, Nat.reduceSub, Nat.reduceLeDiff, List.reduceReplicate]
  refine drawM_intro (fun t => if t = 96 then (false, .ag [.sl 2 (Dat.dsL das), .sl 12 (Def.dsL ds)]) else if t = 98 then (false, .ag d.ds) else (false, .tp [.ag [.sl 2 (Dat.dsL qd), .sl 12 (Def.dsL qs)], I c])) [95, 97] mixed (by kernel_rfl) ?_
  simp only [hd12, hdt, et, ke, k1, k2, k3, go_sem, ↓reduceIte, reduceCtorEq, Nat.reduceLT, Nat.reduceEqDiff, Nat.reduceBEq, Nat.reduceAdd, Nat.reduceMul, Nat.reduceSub, Nat.reduceLeDiff, List.reduceReplicate]
  refine callM_sp _ rfl htp (by simpa using hpc) ?_
  simp only [hd12, hdt, et, ke, k1, k2, k3, go_sem, ↓reduceIte, reduceCtorEq, Nat.reduceLT, Nat.reduceEqDiff, Nat.reduceBEq, Nat.reduceAdd, Nat.reduceMul, Nat.reduceSub, Nat.reduceLeDiff, List.reduceReplicate]
  refine callM_sp _ rfl htd (by simpa using hdc) ?_
  simp only [hd12, hdt, et, ke, k1, k2, k3, go_sem, ↓reduceIte, reduceCtorEq, Nat.reduceLT, Nat.reduceEqDiff, Nat.reduceBEq, Nat.reduceAdd, Nat.reduceMul, Nat.reduceSub, Nat.reduceLeDiff, List.reduceReplicate]
  refine callM_sp _ rfl himpl.sp (by simp; exact ⟨⟨cds, cdf⟩, hdc⟩) ?_
  simp only [hd12, hdt, et, ke, k1, k2, k3, go_sem, ↓reduceIte, reduceCtorEq, Nat.reduceLT, Nat.reduceEqDiff, Nat.reduceBEq, Nat.reduceAdd, Nat.reduceMul, Nat.reduceSub, Nat.reduceLeDiff, List.reduceReplicate]
  refine callK_intro _ heq (by simp; exact ⟨cqs, cqf⟩) ?_
  simp only [hd12, hdt, et, ke, k1, k2, k3, go_sem, ↓reduceIte, reduceCtorEq, Nat.reduceLT, Nat.reduceEqDiff, Nat.reduceBEq, Nat.reduceAdd, Nat.reduceMul, Nat.reduceSub, Nat.reduceLeDiff, List.reduceReplicate]
  refine callK_look [.ag [.sl 2 (Dat.dsL (Dat.markL qd 1)), .sl 12 (Def.dsL (Def.markL qs (1 + (Dat.cntL qd : Nat))))], I 1] _ hhg rfl (by simp only [List.nil_append, List.append_nil, List.cons_append, List.zip_cons_cons, List.zip_nil_right, List.forall_mem_cons]; exact ⟨Fb.ol om (by simp), .fz (.cl _ (.sc _)), by simp⟩) rfl ?_
  simp only [hd12, hdt, et, ke, k1, k2, k3, go_sem, ↓reduceIte, reduceCtorEq, Nat.reduceLT, Nat.reduceEqDiff, Nat.reduceBEq, Nat.reduceAdd, Nat.reduceMul, Nat.reduceSub, Nat.reduceLeDiff, List.reduceReplicate]
  exact Fz.bool rfl
end Go.Proofs.YtcidmkcicagpaaaGreat
