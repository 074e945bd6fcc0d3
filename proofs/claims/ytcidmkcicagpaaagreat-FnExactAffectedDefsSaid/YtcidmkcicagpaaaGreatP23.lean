/-
  AffectedDefs of the program and of the reference. No condition.
-/
import Derived.Test.YtcidmkcicagpaaaGreatP22
set_option maxRecDepth 100000
set_option linter.unusedSimpArgs false
set_option linter.unusedVariables false
namespace Go.Proofs.YtcidmkcicagpaaaGreat
open Go.Fw
open Nat (reduceLT reduceEqDiff reduceAdd reduceMul reduceSub reduceLeDiff)
open List (reduceReplicate)
/-- those below n that are the one asked for or come to it -/
def filtF (rl : Nat → List Int) (a : Nat) (n : Nat) : List Int := ((List.range n).map Int.ofNat).filter fun i => decide (i = a) || decide ((a : Int) ∈ rl i.toNat)
theorem filtF_succ (rl : Nat → List Int) (a n : Nat) : filtF rl a (n + 1) = filtF rl a n ++ (if (decide ((n : Int) = a) || decide ((a : Int) ∈ rl n)) then [(n : Int)] else []) := by
  unfold filtF
  rw [List.range_succ, List.map_append, List.filter_append]
  congr 1
  simp only [List.map_cons, List.map_nil, List.filter_cons, List.filter_nil]
  rfl
theorem filtF_len (rl : Nat → List Int) (a n : Nat) : (filtF rl a n).length ≤ n := by
  refine Nat.le_trans (List.length_filter_le _ _) (by simp)
theorem filtF_asc (rl : Nat → List Int) (a n : Nat) : Asc (filtF rl a n) := List.Pairwise.filter _ (asc_range n)
theorem mem_filtF {rl : Nat → List Int} {a n : Nat} {i : Int} : i ∈ filtF rl a n ↔ (0 ≤ i ∧ i < n) ∧ (i = a ∨ (a : Int) ∈ rl i.toNat) := by
  unfold filtF
  rw [List.mem_filter, mem_range_int, Bool.or_eq_true, decide_eq_true_eq, decide_eq_true_eq]
theorem filtF_none {a n : Nat} (h : a < n) : filtF (fun _ => []) a n = [(a : Int)] := by
  refine asc_ext (filtF_asc _ _ _) (by simp [Asc]) fun i => ?_
  rw [mem_filtF]
  simp only [List.not_mem_nil, or_false, List.mem_singleton]
  constructor
  · exact fun h => h.2
  · rintro rfl; exact ⟨by omega, rfl⟩
theorem filtF_from {u : Int → List Int} {a n : Nat} (h : a < n) : filtF (fun k => fromL u n k) a n = toL u n a := by
  refine asc_ext (filtF_asc _ _ _) (asc_toL _) fun i => ?_
  rw [mem_filtF, mem_toL]
  constructor
  · rintro ⟨h1, h2⟩
    refine ⟨h1, ?_⟩
    rcases h2 with rfl | h2
    · exact .refl _
    · have := (mem_fromL.1 h2).2
      rwa [show ((i.toNat : Nat) : Int) = i by omega] at this
  · rintro ⟨h1, h2⟩
    refine ⟨h1, .inr (mem_fromL.2 ⟨by omega, ?_⟩)⟩
    rwa [show ((i.toNat : Nat) : Int) = i by omega]
open Classical in
/-- the definitions that a change of one touches -/
noncomputable def affL (p : Prg) (a : Nat) : List Int := match p with | .mk das ds => if codeN (.mk das ds) = 0 then toL (useF ds) ds.length a else [(a : Int)]
open Classical in
noncomputable def affR (p : Prg) (n : ByteArray) : List Int × Int := match p with
  | .mk das ds => if progP (.mk das ds) then (if namedF ds n < 0 then ([], 3) else (affL (.mk das ds) (namedF ds n).toNat, 0)) else ([], 1)
open Classical in
theorem affectedDefs (p : Prg) (hs : p.sz ≤ 1048576) (ho : p.ok) (n : ByteArray) : SpG Tryz.prog 17 [.ag p.ds, S n] [] [] (.tp [.sl 1 (Z (affR p n).1), I (affR p n).2]) := by
  have hvp := validProgram p hs ho
  obtain ⟨das, ds⟩ := p
  have hdl : (Def.dsL ds).length = ds.length := Def.dsL_len ds
  have hcl : Cl (.ag [D.sl 2 (Dat.dsL das), D.sl 12 (Def.dsL ds)]) := Cl.ag' (by simp; exact ⟨Dat.clL _, Def.clL _⟩)
  have el : elemInfo Tryz.prog 58 = some (2, 1, 8) := by kernel_rfl
  simp only [Prg.ds, Dat.sl, Def.sl] at hvp
  by_cases c0 : progP (.mk das ds)
  case neg =>
    have hr : affR (.mk das ds) n = ([], 1) := by rw [affR, if_neg c0]
    rw [hr]
    simp only [decide_eq_false c0] at hvp
    refine SpG.of_vc [] [.tmp 4, .tmp 5] Tryz.func17 rfl (by kernel_rfl) Tryz.ntmps17 rfl (by simp) rfl ?_
    simp only [Prg.ds, Dat.sl, Def.sl, go_sem, ↓reduceIte, reduceCtorEq, reduceLT, reduceEqDiff, Nat.reduceBEq, reduceAdd, reduceMul, reduceSub, reduceLeDiff, reduceReplicate]
    refine callK_intro _ hvp (by simp only [List.nil_append, List.append_nil, List.forall_mem_cons]; exact ⟨hcl, by simp⟩) ?_
    simp only [go_sem, ↓reduceIte, reduceCtorEq, reduceLT, reduceEqDiff, Nat.reduceBEq, reduceAdd, reduceMul, reduceSub, reduceLeDiff, reduceReplicate]
    exact Lst.close_tp (S := []) (e := 0) (l := []) (.inl ⟨rfl, rfl⟩)
  have hn8 := c0.2.2.1
  have hfd := findDef das ds n (by unfold maxLen; omega)
  simp only [decide_eq_true c0] at hvp
  simp only [Dat.sl, Def.sl] at hfd
  by_cases c1 : namedF ds n < 0
  · have hr : affR (.mk das ds) n = ([], 3) := by rw [affR, if_pos c0, if_pos c1]
    rw [hr]
    refine SpG.of_vc [] [.tmp 4, .tmp 5] Tryz.func17 rfl (by kernel_rfl) Tryz.ntmps17 rfl (by simp) rfl ?_
    simp only [Prg.ds, Dat.sl, Def.sl, go_sem, ↓reduceIte, reduceCtorEq, reduceLT, reduceEqDiff, Nat.reduceBEq, reduceAdd, reduceMul, reduceSub, reduceLeDiff, reduceReplicate]
    refine callK_intro _ hvp (by simp only [List.nil_append, List.append_nil, List.forall_mem_cons]; exact ⟨hcl, by simp⟩) ?_
    simp only [go_sem, ↓reduceIte, reduceCtorEq, reduceLT, reduceEqDiff, Nat.reduceBEq, reduceAdd, reduceMul, reduceSub, reduceLeDiff, reduceReplicate]
    refine callK_intro _ hfd (by simp only [List.nil_append, List.append_nil, List.forall_mem_cons]; exact ⟨hcl, cl_sc _, by simp⟩) ?_
    simp only [decide_eq_true c1, go_sem, ↓reduceIte, reduceCtorEq, reduceLT, reduceEqDiff, Nat.reduceBEq, reduceAdd, reduceMul, reduceSub, reduceLeDiff, reduceReplicate]
    exact Lst.close_tp (S := []) (e := 0) (l := []) (.inl ⟨rfl, rfl⟩)
  obtain ⟨a, ha, ea, -⟩ := namedF_at (show 0 ≤ namedF ds n by omega)
  have hr : affR (.mk das ds) n = (affL (.mk das ds) a, 0) := by rw [affR, if_pos c0, if_neg c1, ea]; rfl
  rw [hr]
  rw [ea] at hfd
  obtain ⟨rl, hrl, hrl2, hrl3⟩ : ∃ rl : Nat → List Int, (∀ k, k < ds.length → Sp Tryz.prog 50 [.ag [.sl 2 (Dat.dsL das), .sl 12 (Def.dsL ds)], I k] (.sl 1 (Z (rl k)))) ∧ (∀ k, (rl k).length ≤ 8) ∧ affL (.mk das ds) a = filtF rl a ds.length := by
    by_cases c2 : codeN (.mk das ds) = 0
    · exact ⟨fun k => fromL (useF ds) ds.length k, fun k hk => by simpa only [Dat.sl, Def.sl] using reachableDefs das ds hs ho c2 k hk, fun k => Nat.le_trans (Nat.le_trans (List.length_filter_le _ _) (by simp)) hn8, by rw [affL, if_pos c2, filtF_from ha]⟩
    · exact ⟨fun _ => [], fun k hk => reachableDefs0 das ds hs ho c2 k, fun k => by simp, by rw [affL, if_neg c2, filtF_none ha]⟩
  rw [hrl3]
  have ck : decide ((a : Int) < 0) = false := by simp
  refine SpG.of_vc [1000036] [.tmp 4, .tmp 5] Tryz.func17 rfl (by kernel_rfl) Tryz.ntmps17 rfl (by simp) rfl ?_
  simp only [Prg.ds, Dat.sl, Def.sl, go_sem, ↓reduceIte, reduceCtorEq, reduceLT, reduceEqDiff, Nat.reduceBEq, reduceAdd, reduceMul, reduceSub, reduceLeDiff, reduceReplicate]
  refine callK_intro _ hvp (by simp only [List.nil_append, List.append_nil, List.forall_mem_cons]; exact ⟨hcl, by simp⟩) ?_
  simp only [go_sem, ↓reduceIte, reduceCtorEq, reduceLT, reduceEqDiff, Nat.reduceBEq, reduceAdd, reduceMul, reduceSub, reduceLeDiff, reduceReplicate]
  refine callK_intro _ hfd (by simp only [List.nil_append, List.append_nil, List.forall_mem_cons]; exact ⟨hcl, cl_sc _, by simp⟩) ?_
  simp only [ck, hdl, go_sem, ↓reduceIte, reduceCtorEq, reduceLT, reduceEqDiff, Nat.reduceBEq, reduceAdd, reduceMul, reduceSub, reduceLeDiff, reduceReplicate]
  refine loop_count 20 ds.length (fun j => Fw.InvE 39 [(2, .cp [.sl 2 (Dat.dsL das), .sl 12 (Def.dsL ds)]), (6, I a), (19, I ds.length)] fun env H n T => Lst [36] H 2 1 (Z (filtF rl a j)) (env 7)) rfl ⟨rfl, by simp [setE], by simp [setE]; exact .inl ⟨rfl, rfl⟩⟩ ?_
  rintro j ⟨env, H, n', nt, T⟩ hj h5 ⟨rfl, hfs, hx⟩
  simp only [List.forall_mem_cons] at h5 hfs hx
  obtain ⟨e2, e6, e19, -⟩ := hfs
  obtain ⟨y, e7⟩ : ∃ y, env 7 = y := ⟨_, rfl⟩
  rw [e7] at hx
  have hjl := filtF_len rl a j
  have hsc := filtF_succ rl a j
  simp only [h5, e19, go_sem, ↓reduceIte, reduceCtorEq, reduceLT, reduceEqDiff, Nat.reduceBEq, reduceAdd, reduceMul, reduceSub, reduceLeDiff, reduceReplicate]
  refine condK_split (fun h => ?_) (fun h => ?_)
  · have hlt : j < ds.length := by simpa using h
    simp only [h, h5, e2, e6, e7, e19, go_sem, ↓reduceIte, reduceCtorEq, reduceLT, reduceEqDiff, Nat.reduceBEq, reduceAdd, reduceMul, reduceSub, reduceLeDiff, reduceReplicate]
    by_cases q1 : (j : Int) = a
    · have f1 : ((j : Int) == (a : Int)) = true := by simp [q1]
      rw [decide_eq_true q1, Bool.true_or, if_pos rfl] at hsc
      simp only [f1, e7, go_sem, ↓reduceIte, reduceCtorEq, reduceLT, reduceEqDiff, Nat.reduceBEq, reduceAdd, reduceMul, reduceSub, reduceLeDiff, reduceReplicate]
      refine GK.intro (opK.app (S := [36]) (rows := Z (filtF rl a j)) (rows2 := Z [(j : Int)]) el (by simp only [setE, if_true, reduceCtorEq, if_false, Nat.reduceEqDiff]; exact hx.congr (by simp [upd])) (Z_len _) (by simp [setE, newsD, upd]) (by simp) (by simp [oneD, Value.oneCell']) (by rw [Z_l, Z_l]; simp; omega) (by rw [Z_l, Z_l]; unfold maxLen; simp; omega) fun H' n' x' hx' hH => ?_)
      simp only [h5, go_sem, ↓reduceIte, reduceCtorEq, reduceLT, reduceEqDiff, Nat.reduceBEq, reduceAdd, reduceMul, reduceSub, reduceLeDiff, reduceReplicate]
      refine nextC_mk (by simp [setE, wrap_succ j (by omega)]) hlt ⟨rfl, by simp [setE, e2, e6, e19], ?_⟩
      rw [← Z_app, ← hsc] at hx'
      simpa [setE] using hx'
    · have f1 : ((j : Int) == (a : Int)) = false := by simp [q1]
      rw [decide_eq_false q1, Bool.false_or] at hsc
      simp only [f1, e2, e6, e7, go_sem, ↓reduceIte, reduceCtorEq, reduceLT, reduceEqDiff, Nat.reduceBEq, reduceAdd, reduceMul, reduceSub, reduceLeDiff, reduceReplicate]
      refine callK_intro _ (hrl j hlt) (by simp only [List.nil_append, List.append_nil, List.forall_mem_cons]; exact ⟨hcl, cl_sc _, by simp⟩) ?_
      simp only [e6, go_sem, ↓reduceIte, reduceCtorEq, reduceLT, reduceEqDiff, Nat.reduceBEq, reduceAdd, reduceMul, reduceSub, reduceLeDiff, reduceReplicate]
      refine callK_intro _ (containsInt (rl j) a (by have := hrl2 j; omega)) (by simp only [List.nil_append, List.append_nil, List.forall_mem_cons]; exact ⟨cl_Z _, cl_sc _, by simp⟩) ?_
      by_cases q2 : (a : Int) ∈ rl j
      · rw [decide_eq_true q2, if_pos rfl] at hsc
        simp only [decide_eq_true q2, e7, go_sem, ↓reduceIte, reduceCtorEq, reduceLT, reduceEqDiff, Nat.reduceBEq, reduceAdd, reduceMul, reduceSub, reduceLeDiff, reduceReplicate]
        refine GK.intro (opK.app (S := [36]) (rows := Z (filtF rl a j)) (rows2 := Z [(j : Int)]) el (by simp only [setE, if_true, reduceCtorEq, if_false, Nat.reduceEqDiff]; exact hx.congr (by simp [upd])) (Z_len _) (by simp [setE, newsD, upd]) (by simp) (by simp [oneD, Value.oneCell']) (by rw [Z_l, Z_l]; simp; omega) (by rw [Z_l, Z_l]; unfold maxLen; simp; omega) fun H' n' x' hx' hH => ?_)
        simp only [h5, go_sem, ↓reduceIte, reduceCtorEq, reduceLT, reduceEqDiff, Nat.reduceBEq, reduceAdd, reduceMul, reduceSub, reduceLeDiff, reduceReplicate]
        refine nextC_mk (by simp [setE, wrap_succ j (by omega)]) hlt ⟨rfl, by simp [setE, e2, e6, e19], ?_⟩
        rw [← Z_app, ← hsc] at hx'
        simpa [setE] using hx'
      · rw [decide_eq_false q2, if_neg (by simp), List.append_nil] at hsc
        simp only [decide_eq_false q2, h5, go_sem, ↓reduceIte, reduceCtorEq, reduceLT, reduceEqDiff, Nat.reduceBEq, reduceAdd, reduceMul, reduceSub, reduceLeDiff, reduceReplicate]
        refine nextC_mk (by simp [setE, wrap_succ j (by omega)]) hlt ⟨rfl, by simp [setE, e2, e6, e19], ?_⟩
        rw [hsc]
        simpa [setE, e7] using hx
  · have hj' : j = ds.length := by simp at h; omega
    subst hj'
    simp only [h, e7, go_sem, ↓reduceIte, reduceCtorEq, reduceLT, reduceEqDiff, Nat.reduceBEq, reduceAdd, reduceMul, reduceSub, reduceLeDiff, reduceReplicate]
    exact Lst.close_tp hx
end Go.Proofs.YtcidmkcicagpaaaGreat
