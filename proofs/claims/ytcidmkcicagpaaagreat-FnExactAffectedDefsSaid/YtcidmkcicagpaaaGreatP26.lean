/-
  The law FnExactAffectedDefs over data. No condition.
-/
import Derived.Test.YtcidmkcicagpaaaGreatP25
import Derived.Test.YtcidmkcicagpaaaGreatL3
set_option maxRecDepth 100000
set_option linter.unusedSimpArgs false
set_option linter.unusedVariables false
namespace Go.Proofs.YtcidmkcicagpaaaGreat
open Go.Fw
open Nat (reduceLT reduceEqDiff reduceAdd reduceMul reduceSub reduceLeDiff)
open List (reduceReplicate)
/-! ### How many marks -/
mutual
theorem Typ.cnt_le : ∀ c : Typ, c.cnt ≤ 2 + 2 * c.sz
  | .mk x0 x1 x2 => by have := Typ.cntL_le' x2; simp only [Typ.cnt, Typ.sz]; omega
theorem Typ.cntL_le' : ∀ l : List Typ, Typ.cntL l ≤ 2 * l.length + 2 * Typ.szS l
  | [] => by simp [Typ.cntL]
  | c :: cs => by have h1 := Typ.cnt_le c; have h2 := Typ.cntL_le' cs; simp only [Typ.cntL, Typ.szS, List.length_cons]; omega
end
mutual
theorem Term.cnt_le : ∀ c : Term, c.cnt ≤ 5 + 5 * c.sz
  | .mk x0 x1 x2 (.mk y0 y1 y2) x4 x5 => by have h1 := Typ.cntL_le' y2; have := Term.cntL_le' x5; simp only [Term.cnt, Term.sz, Typ.sz]; omega
theorem Term.cntL_le' : ∀ l : List Term, Term.cntL l ≤ 5 * l.length + 5 * Term.szS l
  | [] => by simp [Term.cntL]
  | c :: cs => by have h1 := Term.cnt_le c; have h2 := Term.cntL_le' cs; simp only [Term.cntL, Term.szS, List.length_cons]; omega
end
theorem Constructor.cntL_le' : ∀ l : List Constructor, Constructor.cntL l ≤ l.length + 2 * Constructor.szS l
  | [] => by simp [Constructor.cntL]
  | .mk x0 x1 :: cs => by have h1 := Typ.cntL_le' x1; have h2 := Constructor.cntL_le' cs; simp only [Constructor.szS, List.map_cons, List.sum_cons] at h2 ⊢; simp only [Constructor.cntL, Constructor.cnt, Constructor.sz, List.length_cons]; omega
theorem Dat.cntL_le' : ∀ l : List Dat, Dat.cntL l ≤ l.length + 2 * Dat.szS l
  | [] => by simp [Dat.cntL]
  | .mk x0 x1 :: cs => by have h1 := Constructor.cntL_le' x1; have h2 := Dat.cntL_le' cs; simp only [Dat.szS, List.map_cons, List.sum_cons] at h2 ⊢; simp only [Dat.cntL, Dat.cnt, Dat.sz, List.length_cons]; omega
theorem Def.cntL_le' : ∀ l : List Def, Def.cntL l ≤ 8 * l.length + 5 * Def.szS l
  | [] => by simp [Def.cntL]
  | .mk x0 (.mk x1_0 x1_1 x1_2) (.mk x2_0 x2_1 x2_2 (.mk x2_3_0 x2_3_1 x2_3_2) x2_4 x2_5) :: cs => by
    have h1 := Typ.cntL_le' x1_2; have h3 := Typ.cntL_le' x2_3_2; have h4 := Term.cntL_le' x2_5; have h2 := Def.cntL_le' cs
    simp only [Def.szS, List.map_cons, List.sum_cons] at h2 ⊢; simp only [Def.cntL, Def.cnt, Def.sz, Typ.sz, Term.sz, List.length_cons]; omega
/-! ### Looking at trees -/
theorem Fb.ol {H : Nat → Option Ob} {T' : List TE} {ds es : List D} {T : List TE} (h : OL O1 ds es T) (hT : ∀ te ∈ T, te ∈ T') : Fb H T' (.ag es) (.ag ds) := by
  refine .ag es ds h.len ?_
  induction h with
  | nil => intro i d e hd; simp at hd
  | @cons d e T1 ds es T2 h _ ih =>
    intro i a b ha hb
    cases i with
    | zero =>
      simp at ha hb; subst ha; subst hb
      cases h with
      | sc v => exact .fz (.cl _ (.sc v))
      | sl sz rows a n c F => exact .tr ⟨.slice a n c, .sl sz rows, F⟩ (hT _ (by simp))
    | succ i => exact ih (fun te k => hT te (List.mem_append_right _ k)) i a b (by simpa using ha) (by simpa using hb)
theorem callK_look {P : Program} {s : St} {f : FuncId} {first caps args : List D} {dst : Option Nat} {K : St → Prop} (bs : List D) (r : D) (h : Sp P f bs r) (hl : bs.length = (first ++ args ++ caps).length)
    (hfb : ∀ x ∈ (first ++ args ++ caps).zip bs, Fb s.H s.T x.1 x.2) (hdet : (detD r).isSome = true) (hK : K (s.put dst r)) : callK P s (.fn f first caps) args dst K :=
  .inl ⟨r, .inr ⟨bs, hl, fb_zip hfb, h, hdet⟩, hK⟩
theorem prg_open {das : List Dat} {ds : List Def} {e : D} {T : List TE} (h : O3 (.ag [.sl 2 (Dat.dsL das), .sl 12 (Def.dsL ds)]) e T) : ∃ a1 n1 c1 F1 a2 n2 c2 F2, e = .ag [.sc (.slice a1 n1 c1), .sc (.slice a2 n2 c2)] ∧ T = [⟨.slice a1 n1 c1, .sl 2 (Dat.dsL das), F1⟩, ⟨.slice a2 n2 c2, .sl 12 (Def.dsL ds), F2⟩] := by
  obtain ⟨es, rfl, ho⟩ := o3_ag h
  rw [ol_sl] at ho
  obtain ⟨a1, n1, c1, F1, es1, T1, rfl, rfl, ho⟩ := ho
  rw [ol_sl] at ho
  obtain ⟨a2, n2, c2, F2, es2, T2, rfl, rfl, ho⟩ := ho
  rw [ol_nil] at ho
  obtain ⟨rfl, rfl⟩ := ho
  exact ⟨a1, n1, c1, F1, a2, n2, c2, F2, rfl, rfl⟩
theorem affR_len {p : Prg} {n : ByteArray} {l : List Int} {c : Int} (h : affR p n = (l, c)) : l.length ≤ 8 := by
  obtain ⟨das, ds⟩ := p
  unfold affR at h
  simp only at h
  split at h
  · rename_i c0
    have hn8 := c0.2.2.1
    split at h
    · cases h; simp
    · cases h
      unfold affL
      simp only
      split
      · exact Nat.le_trans (Nat.le_trans (List.length_filter_le _ _) (by simp)) hn8
      · simp
  · cases h; simp
open Classical in
theorem lawAffectedDefs (p : Prg) (n : ByteArray) (ho : p.ok) : Sp Tryz.prog 4 [.ag p.ds, S n] (B true) := by
  have hs1 := szProgram p 1048576 (by omega) (by omega) ho
  have hpc := Prg.cl p
  obtain ⟨⟨l, c⟩, hq⟩ : ∃ x, affR p n = x := ⟨_, rfl⟩
  have hl8 := affR_len hq
  obtain ⟨das, ds⟩ := p
  simp only [Prg.ds, Dat.sl, Def.sl] at hs1 hpc
  have cds := Dat.clL das
  have cdf := Def.clL ds
  have cp : Cl (.ag [.sl 2 (Dat.dsL das), .sl 12 (Def.dsL ds)]) := Cl.ag' (by simp; exact ⟨cds, cdf⟩)
  have cz := cl_Z l
  refine Sp.of_vc [] [.tmp 4] Tryz.func4 rfl (by kernel_rfl) Tryz.ntmps4 rfl (by simp) ?_
  simp only [Prg.ds, Dat.sl, Def.sl, go_sem, ↓reduceIte, reduceCtorEq, reduceLT, reduceEqDiff, Nat.reduceBEq, reduceAdd, reduceMul, reduceSub, reduceLeDiff, reduceReplicate]
  by_cases s0 : (n.size : Int) > 1048576
  · simp only [decide_eq_true s0, go_sem, ↓reduceIte, reduceCtorEq, reduceLT, reduceEqDiff, Nat.reduceBEq, reduceAdd, reduceMul, reduceSub, reduceLeDiff, reduceReplicate]
    exact Fz.bool rfl
  simp only [decide_eq_false s0, go_sem, ↓reduceIte, reduceCtorEq, reduceLT, reduceEqDiff, Nat.reduceBEq, reduceAdd, reduceMul, reduceSub, reduceLeDiff, reduceReplicate]
  refine callK_intro _ hs1 (by simp only [List.nil_append, List.append_nil, List.forall_mem_cons]; exact ⟨cp, cl_sc _, by simp⟩) ?_
  by_cases s1 : ((Prg.mk das ds).sz : Int) ≤ 1048576
  case neg =>
    have d1 : decide ((-1 : Int) < 0) = true := rfl
    simp only [szF_neg s1, d1, go_sem, ↓reduceIte, reduceCtorEq, reduceLT, reduceEqDiff, Nat.reduceBEq, reduceAdd, reduceMul, reduceSub, reduceLeDiff, reduceReplicate]
    exact Fz.bool rfl
  have d1 : decide ((1048576 : Int) - (Prg.mk das ds).sz < 0) = false := by simp; omega
  have hsz : (Prg.mk das ds).sz ≤ 1048576 := by omega
  have hspec := specAffectedDefs (.mk das ds) hsz ho n
  have himpl := affectedDefs (.mk das ds) hsz ho n
  have htp := toProgram (.mk das ds) hsz
  have htpG := toProgramG (.mk das ds) hsz
  have hep := eqProgram (.mk das ds) (.mk das ds) ho
  have heq := eqInt64S l l (by unfold maxLen; omega)
  rw [hq] at hspec himpl
  simp only [Prg.ds, Dat.sl, Def.sl, ints] at hspec himpl htp htpG hep heq
  have hep : Sp Tryz.prog 11 [.ag [.sl 2 (Dat.dsL das), .sl 12 (Def.dsL ds)], .ag [.sl 2 (Dat.dsL das), .sl 12 (Def.dsL ds)]] (B true) := by simpa using hep
  have heq : Sp Tryz.prog 18 [.sl 1 (Z l), .sl 1 (Z l)] (B true) := by simpa using heq
  have hsz' := hsz
  simp only [Prg.sz] at hsz'
  have b1 := Dat.cntL_le' das
  have b2 := Def.cntL_le' ds
  have et : (!true) = false := rfl
  have ke : (c != c) = false := by simp
  have k1 : decide ((1 : Int) + (Dat.cntL das : Nat) + (Def.cntL ds : Nat) < 0) = false := by simp only [decide_eq_false_iff_not]; omega
  have k2 : decide ((1 : Int) + (l.length : Nat) < 0) = false := by simp only [decide_eq_false_iff_not]; omega
  have k3 : (((1 : Int) + (l.length : Nat)) != ((1 : Int) + (l.length : Nat))) = false := by simp
  have hmi := markInt64S l 1 (by omega) (by omega)
  have hhi := heldInt64S l 1 (by omega) (by omega)
  simp only [ints] at hmi hhi
  simp only [szF_pos s1, d1, go_sem, ↓reduceIte, reduceCtorEq, reduceLT, reduceEqDiff, Nat.reduceBEq, reduceAdd, reduceMul, reduceSub, reduceLeDiff, reduceReplicate]
  refine callK_intro _ htp (by simp only [List.nil_append, List.append_nil, List.forall_mem_cons]; exact ⟨cp, by simp⟩) ?_
  simp only [go_sem, ↓reduceIte, reduceCtorEq, reduceLT, reduceEqDiff, Nat.reduceBEq, reduceAdd, reduceMul, reduceSub, reduceLeDiff, reduceReplicate]
  refine callK_intro _ hspec (by simp only [List.nil_append, List.append_nil, List.forall_mem_cons]; exact ⟨cp, cl_sc _, by simp⟩) ?_
  simp only [go_sem, ↓reduceIte, reduceCtorEq, reduceLT, reduceEqDiff, Nat.reduceBEq, reduceAdd, reduceMul, reduceSub, reduceLeDiff, reduceReplicate]
  refine callK_new _ htpG (by simp only [List.nil_append, List.append_nil, List.forall_mem_cons]; exact ⟨cp, by simp⟩) ?_
  intro e T hO
  obtain ⟨a1, n1, c1, F1, a2, n2, c2, F2, rfl, rfl⟩ := prg_open hO
  have ox : OL O1 [.sl 2 (Dat.dsL das), .sl 12 (Def.dsL ds)] [.sc (.slice a1 n1 c1), .sc (.slice a2 n2 c2)] [⟨.slice a1 n1 c1, .sl 2 (Dat.dsL das), F1⟩, ⟨.slice a2 n2 c2, .sl 12 (Def.dsL ds), F2⟩] := OL.tr' (OL.tr' .nil)
  have hmp := markProgram das ds 1 (by omega) (by omega) a1 n1 c1 F1 a2 n2 c2 F2
  simp only [Dat.sl, Def.sl] at hmp
  simp only [go_sem, ↓reduceIte, reduceCtorEq, reduceLT, reduceEqDiff, Nat.reduceBEq, reduceAdd, reduceMul, reduceSub, reduceLeDiff, reduceReplicate]
  refine callK_read [.ag [.sl 2 (Dat.dsL das), .sl 12 (Def.dsL ds)], S n] _ himpl rfl (by simp only [List.nil_append, List.append_nil, List.cons_append, List.zip_cons_cons, List.zip_nil_right, List.forall_mem_cons]; exact ⟨Fb.ol ox (by simp), .fz (.cl _ (cl_sc _)), by simp⟩) ?_
  intro e T hO
  obtain ⟨a3, n3, c3, F3, rfl, rfl⟩ := o3_tp_sl_sc hO
  simp only [go_sem, ↓reduceIte, reduceCtorEq, reduceLT, reduceEqDiff, Nat.reduceBEq, reduceAdd, reduceMul, reduceSub, reduceLeDiff, reduceReplicate]
  refine callK_look [.sl 1 (Z l), .sl 1 (Z l)] _ heq rfl (by simp only [List.nil_append, List.append_nil, List.cons_append, List.zip_cons_cons, List.zip_nil_right, List.forall_mem_cons]; exact ⟨.tr ⟨.slice a3 n3 c3, .sl 1 (Z l), F3⟩ (by simp), .fz (.cl _ cz), by simp⟩) rfl ?_
  simp only [et, ke, go_sem, ↓reduceIte, reduceCtorEq, reduceLT, reduceEqDiff, Nat.reduceBEq, reduceAdd, reduceMul, reduceSub, reduceLeDiff, reduceReplicate]
  refine drawK_intro mixed (by kernel_rfl) ?_
  refine callQ_intro _ htp (by simp only [List.nil_append, List.append_nil, List.forall_mem_cons]; exact ⟨cp, by simp⟩) rfl ?_
  simp only [et, ke, go_sem, ↓reduceIte, reduceCtorEq, reduceLT, reduceEqDiff, Nat.reduceBEq, reduceAdd, reduceMul, reduceSub, reduceLeDiff, reduceReplicate]
  refine callQ_read [.ag [.sl 2 (Dat.dsL das), .sl 12 (Def.dsL ds)], .ag [.sl 2 (Dat.dsL das), .sl 12 (Def.dsL ds)]] _ hep rfl (by simp only [List.nil_append, List.append_nil, List.cons_append, List.zip_cons_cons, List.zip_nil_right, List.forall_mem_cons]; exact ⟨Fb.ol ox (by simp), .fz (.cl _ cp), by simp⟩) rfl ?_
  simp only [et, ke, go_sem, ↓reduceIte, reduceCtorEq, reduceLT, reduceEqDiff, Nat.reduceBEq, reduceAdd, reduceMul, reduceSub, reduceLeDiff, reduceReplicate]
  refine callK_mark [⟨.slice a1 n1 c1, .sl 2 (Dat.dsL das), F1⟩, ⟨.slice a2 n2 c2, .sl 12 (Def.dsL ds), F2⟩] [⟨.slice a3 n3 c3, .sl 1 (Z l), F3⟩] ([⟨.slice a1 n1 c1, .sl 2 (Dat.dsL (Dat.markL das 1)), F1⟩, ⟨.slice a2 n2 c2, .sl 12 (Def.dsL (Def.markL ds (1 + (Dat.cntL das : Nat)))), F2⟩] ++ [⟨.slice a3 n3 c3, .sl 1 (Z l), F3⟩]) [.sl 2 (Dat.dsL (Dat.markL das 1)), .sl 12 (Def.dsL (Def.markL ds (1 + (Dat.cntL das : Nat))))] (.int .i64 ((1 : Int) + (Dat.cntL das : Nat) + (Def.cntL ds : Nat))) ?_ ?_ ?_ ?_ ?_
  · simpa only [List.nil_append, List.append_nil, List.cons_append] using hmp
  · simp
  · simp
  · simp [upT]
  simp only [et, ke, k1, go_sem, ↓reduceIte, reduceCtorEq, reduceLT, reduceEqDiff, Nat.reduceBEq, reduceAdd, reduceMul, reduceSub, reduceLeDiff, reduceReplicate]
  refine callK_look [.sl 1 (Z l), .sl 1 (Z l)] _ heq rfl (by simp only [List.nil_append, List.append_nil, List.cons_append, List.zip_cons_cons, List.zip_nil_right, List.forall_mem_cons]; exact ⟨.tr ⟨.slice a3 n3 c3, .sl 1 (Z l), F3⟩ (by simp), .fz (.cl _ cz), by simp⟩) rfl ?_
  simp only [et, ke, k1, go_sem, ↓reduceIte, reduceCtorEq, reduceLT, reduceEqDiff, Nat.reduceBEq, reduceAdd, reduceMul, reduceSub, reduceLeDiff, reduceReplicate]
  refine callK_mark [⟨.slice a3 n3 c3, .sl 1 (Z l), F3⟩] [⟨.slice a1 n1 c1, .sl 2 (Dat.dsL (Dat.markL das 1)), F1⟩, ⟨.slice a2 n2 c2, .sl 12 (Def.dsL (Def.markL ds (1 + (Dat.cntL das : Nat)))), F2⟩] ([⟨.slice a1 n1 c1, .sl 2 (Dat.dsL (Dat.markL das 1)), F1⟩, ⟨.slice a2 n2 c2, .sl 12 (Def.dsL (Def.markL ds (1 + (Dat.cntL das : Nat)))), F2⟩] ++ [⟨.slice a3 n3 c3, .sl 1 (Z (markInt l 1)), F3⟩]) [.sl 1 (Z (markInt l 1))] (.int .i64 ((1 : Int) + (l.length : Nat))) ?_ ?_ ?_ ?_ ?_
  · simpa only [List.nil_append, List.append_nil, List.cons_append] using hmi _ F3
  · simp
  · exact List.perm_append_comm (α := TE) (l₁ := [⟨.slice a1 n1 c1, .sl 2 (Dat.dsL (Dat.markL das 1)), F1⟩, ⟨.slice a2 n2 c2, .sl 12 (Def.dsL (Def.markL ds (1 + (Dat.cntL das : Nat)))), F2⟩]) (l₂ := [⟨.slice a3 n3 c3, .sl 1 (Z l), F3⟩])
  · exact List.perm_append_comm (α := TE) (l₁ := [⟨.slice a1 n1 c1, .sl 2 (Dat.dsL (Dat.markL das 1)), F1⟩, ⟨.slice a2 n2 c2, .sl 12 (Def.dsL (Def.markL ds (1 + (Dat.cntL das : Nat)))), F2⟩]) (l₂ := [⟨.slice a3 n3 c3, .sl 1 (Z (markInt l 1)), F3⟩])
  simp only [go_sem, ↓reduceIte, reduceCtorEq, reduceLT, reduceEqDiff, Nat.reduceBEq, reduceAdd, reduceMul, reduceSub, reduceLeDiff, reduceReplicate]
  refine callK_look [.sl 1 (Z (markInt l 1)), I 1] _ hhi rfl (by simp only [List.nil_append, List.append_nil, List.cons_append, List.zip_cons_cons, List.zip_nil_right, List.forall_mem_cons]; exact ⟨.tr ⟨.slice a3 n3 c3, .sl 1 (Z (markInt l 1)), F3⟩ (by simp), .fz (.cl _ (cl_sc _)), by simp⟩) rfl ?_
  simp only [k2, k3, go_sem, ↓reduceIte, reduceCtorEq, reduceLT, reduceEqDiff, Nat.reduceBEq, reduceAdd, reduceMul, reduceSub, reduceLeDiff, reduceReplicate]
  refine callK_intro _ htp (by simp only [List.nil_append, List.append_nil, List.forall_mem_cons]; exact ⟨cp, by simp⟩) ?_
  simp only [go_sem, ↓reduceIte, reduceCtorEq, reduceLT, reduceEqDiff, Nat.reduceBEq, reduceAdd, reduceMul, reduceSub, reduceLeDiff, reduceReplicate]
  refine callK_intro _ himpl.sp (by simp only [List.nil_append, List.append_nil, List.forall_mem_cons]; exact ⟨cp, cl_sc _, by simp⟩) ?_
  simp only [go_sem, ↓reduceIte, reduceCtorEq, reduceLT, reduceEqDiff, Nat.reduceBEq, reduceAdd, reduceMul, reduceSub, reduceLeDiff, reduceReplicate]
  refine callK_intro _ heq (by simp only [List.nil_append, List.append_nil, List.forall_mem_cons]; exact ⟨cz, cz, by simp⟩) ?_
  simp only [et, ke, go_sem, ↓reduceIte, reduceCtorEq, reduceLT, reduceEqDiff, Nat.reduceBEq, reduceAdd, reduceMul, reduceSub, reduceLeDiff, reduceReplicate]
  refine callK_look [.sl 1 (Z (markInt l 1)), I 1] _ hhi rfl (by simp only [List.nil_append, List.append_nil, List.cons_append, List.zip_cons_cons, List.zip_nil_right, List.forall_mem_cons]; exact ⟨.tr ⟨.slice a3 n3 c3, .sl 1 (Z (markInt l 1)), F3⟩ (by simp), .fz (.cl _ (cl_sc _)), by simp⟩) rfl ?_
  simp only [k2, k3, go_sem, ↓reduceIte, reduceCtorEq, reduceLT, reduceEqDiff, Nat.reduceBEq, reduceAdd, reduceMul, reduceSub, reduceLeDiff, reduceReplicate]
  exact Fz.bool rfl
end Go.Proofs.YtcidmkcicagpaaaGreat
