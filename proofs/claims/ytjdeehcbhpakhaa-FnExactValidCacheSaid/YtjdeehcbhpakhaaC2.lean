/-
  Contracts over data of SameCache, of the program and of the reference. No condition.
-/
import Derived.Test.YtjdeehcbhpakhaaC1
namespace Go.Proofs.Ytjdeehcbhpakhaa
open Go.Fw
open Classical
set_option maxRecDepth 100000
set_option linter.unusedSimpArgs false
set_option linter.unusedVariables false
theorem l41SameEntry (a b : CacheEntry) (ha : a.ok) : Sp Try.prog 23 [.cp a.ds, .cp b.ds] (B (decide (a = b))) := by
  match a, b, ha with
  | .mk a0 (.mk a1_0 a1_1 a1_2 a1_3) a2 a3, .mk b0 (.mk b1_0 b1_1 b1_2 b1_3) b2 b3, ha =>
  simp only [CacheEntry.ok] at ha
  obtain ⟨o0, o1, o2⟩ := ha
  refine Sp.of_vc [] [.tmp 4] Try.func23 rfl (by kernel_rfl) Try.ntmps23 rfl (by simp) ?_
  simp only [CacheEntry.ds, Core.ds, go_sem, ↓reduceIte, reduceCtorEq, Nat.reduceLT, Nat.reduceEqDiff, Nat.reduceAdd, Nat.reduceMul, Nat.reduceSub, Nat.reduceLeDiff]
  refine drawK_intro mixed (by kernel_rfl) ?_
  by_cases c0 : a0 = b0
  case neg =>
    have f0 : (a0.toList == b0.toList) = false := by simp [bytes_eq, c0]
    simp only [f0, go_sem, ↓reduceIte, reduceCtorEq, Nat.reduceLT, Nat.reduceEqDiff, Nat.reduceAdd, Nat.reduceMul, Nat.reduceSub, Nat.reduceLeDiff]
    refine Fz.bool ?_
    symm; rw [decide_eq_false_iff_not]; intro e; apply c0; injection e
  have f0 : (a0.toList == b0.toList) = true := by simp [bytes_eq, c0]
  simp only [f0, go_sem, ↓reduceIte, reduceCtorEq, Nat.reduceLT, Nat.reduceEqDiff, Nat.reduceAdd, Nat.reduceMul, Nat.reduceSub, Nat.reduceLeDiff]
  refine callQ_intro _ ((l06Same ((.mk a1_0 a1_1 a1_2 a1_3) : Core) ((.mk b1_0 b1_1 b1_2 b1_3) : Core) o1).le2 (LeD.cp 4 rfl) (LeD.cp 4 rfl)) (by simp only [List.nil_append, List.append_nil, List.forall_mem_cons]; exact ⟨Cl.cp' (by simp; exact Core.clL _), Cl.cp' (by simp; exact Core.clL _), by simp⟩) rfl ?_
  by_cases c1 : ((.mk a1_0 a1_1 a1_2 a1_3) : Core) = ((.mk b1_0 b1_1 b1_2 b1_3) : Core)
  case neg =>
    have f1 : decide (((.mk a1_0 a1_1 a1_2 a1_3) : Core) = ((.mk b1_0 b1_1 b1_2 b1_3) : Core)) = false := by rw [decide_eq_false_iff_not]; exact c1
    simp only [f1, go_sem, ↓reduceIte, reduceCtorEq, Nat.reduceLT, Nat.reduceEqDiff, Nat.reduceAdd, Nat.reduceMul, Nat.reduceSub, Nat.reduceLeDiff]
    refine Fz.bool ?_
    symm; rw [decide_eq_false_iff_not]; intro e; apply c1; injection e
  have f1 : decide (((.mk a1_0 a1_1 a1_2 a1_3) : Core) = ((.mk b1_0 b1_1 b1_2 b1_3) : Core)) = true := by rw [decide_eq_true_eq]; exact c1
  simp only [f1, go_sem, ↓reduceIte, reduceCtorEq, Nat.reduceLT, Nat.reduceEqDiff, Nat.reduceAdd, Nat.reduceMul, Nat.reduceSub, Nat.reduceLeDiff]
  refine callQ_intro _ (l00Same a2 b2 o2) (by simp only [List.nil_append, List.append_nil, List.forall_mem_cons]; exact ⟨cl_ints a2, cl_ints b2, by simp⟩) rfl ?_
  by_cases c2 : a2 = b2
  case neg =>
    have f2 : decide (a2 = b2) = false := by rw [decide_eq_false_iff_not]; exact c2
    simp only [f2, go_sem, ↓reduceIte, reduceCtorEq, Nat.reduceLT, Nat.reduceEqDiff, Nat.reduceAdd, Nat.reduceMul, Nat.reduceSub, Nat.reduceLeDiff]
    refine Fz.bool ?_
    symm; rw [decide_eq_false_iff_not]; intro e; apply c2; injection e
  have f2 : decide (a2 = b2) = true := by rw [decide_eq_true_eq]; exact c2
  simp only [f2, go_sem, ↓reduceIte, reduceCtorEq, Nat.reduceLT, Nat.reduceEqDiff, Nat.reduceAdd, Nat.reduceMul, Nat.reduceSub, Nat.reduceLeDiff]
  by_cases c3 : a3 = b3
  case neg =>
    have f3 : (a3 == b3) = false := by simp [bytes_eq, c3]
    simp only [f3, go_sem, ↓reduceIte, reduceCtorEq, Nat.reduceLT, Nat.reduceEqDiff, Nat.reduceAdd, Nat.reduceMul, Nat.reduceSub, Nat.reduceLeDiff]
    refine Fz.bool ?_
    symm; rw [decide_eq_false_iff_not]; intro e; apply c3; injection e
  have f3 : (a3 == b3) = true := by simp [bytes_eq, c3]
  simp only [f3, go_sem, ↓reduceIte, reduceCtorEq, Nat.reduceLT, Nat.reduceEqDiff, Nat.reduceAdd, Nat.reduceMul, Nat.reduceSub, Nat.reduceLeDiff]
  refine Fz.bool ?_
  symm; rw [decide_eq_true_eq, c0, c1, c2, c3]
theorem sameEntry (a b : CacheEntry) (ha : a.ok) : Sp Try.prog 26 [.ag a.ds, .ag b.ds] (B (decide (a = b))) := by
  match a, b, ha with
  | .mk a0 (.mk a1_0 a1_1 a1_2 a1_3) a2 a3, .mk b0 (.mk b1_0 b1_1 b1_2 b1_3) b2 b3, ha =>
  simp only [CacheEntry.ok] at ha
  obtain ⟨o0, o1, o2⟩ := ha
  refine Sp.of_vc [] [.tmp 4] Try.func26 rfl (by kernel_rfl) Try.ntmps26 rfl (by simp) ?_
  simp only [CacheEntry.ds, Core.ds, go_sem, ↓reduceIte, reduceCtorEq, Nat.reduceLT, Nat.reduceEqDiff, Nat.reduceAdd, Nat.reduceMul, Nat.reduceSub, Nat.reduceLeDiff]
  by_cases c0 : a0 = b0
  case neg =>
    have f0 : (a0.toList == b0.toList) = false := by simp [bytes_eq, c0]
    simp only [f0, go_sem, ↓reduceIte, reduceCtorEq, Nat.reduceLT, Nat.reduceEqDiff, Nat.reduceAdd, Nat.reduceMul, Nat.reduceSub, Nat.reduceLeDiff]
    refine Fz.bool ?_
    symm; rw [decide_eq_false_iff_not]; intro e; apply c0; injection e
  have f0 : (a0.toList == b0.toList) = true := by simp [bytes_eq, c0]
  simp only [f0, go_sem, ↓reduceIte, reduceCtorEq, Nat.reduceLT, Nat.reduceEqDiff, Nat.reduceAdd, Nat.reduceMul, Nat.reduceSub, Nat.reduceLeDiff]
  refine callK_intro _ (SameCore ((.mk a1_0 a1_1 a1_2 a1_3) : Core) ((.mk b1_0 b1_1 b1_2 b1_3) : Core) o1) (by simp only [List.nil_append, List.append_nil, List.forall_mem_cons]; exact ⟨Cl.ag' (Core.cl ((.mk a1_0 a1_1 a1_2 a1_3) : Core)), Cl.ag' (Core.cl ((.mk b1_0 b1_1 b1_2 b1_3) : Core)), by simp⟩) ?_
  by_cases c1 : ((.mk a1_0 a1_1 a1_2 a1_3) : Core) = ((.mk b1_0 b1_1 b1_2 b1_3) : Core)
  case neg =>
    have f1 : decide (((.mk a1_0 a1_1 a1_2 a1_3) : Core) = ((.mk b1_0 b1_1 b1_2 b1_3) : Core)) = false := by rw [decide_eq_false_iff_not]; exact c1
    simp only [f1, go_sem, ↓reduceIte, reduceCtorEq, Nat.reduceLT, Nat.reduceEqDiff, Nat.reduceAdd, Nat.reduceMul, Nat.reduceSub, Nat.reduceLeDiff]
    refine Fz.bool ?_
    symm; rw [decide_eq_false_iff_not]; intro e; apply c1; injection e
  have f1 : decide (((.mk a1_0 a1_1 a1_2 a1_3) : Core) = ((.mk b1_0 b1_1 b1_2 b1_3) : Core)) = true := by rw [decide_eq_true_eq]; exact c1
  simp only [f1, go_sem, ↓reduceIte, reduceCtorEq, Nat.reduceLT, Nat.reduceEqDiff, Nat.reduceAdd, Nat.reduceMul, Nat.reduceSub, Nat.reduceLeDiff]
  refine callK_intro _ (slicesEqualInt a2 b2 o2) (by simp only [List.nil_append, List.append_nil, List.forall_mem_cons]; exact ⟨cl_ints a2, cl_ints b2, by simp⟩) ?_
  by_cases c2 : a2 = b2
  case neg =>
    have f2 : decide (a2 = b2) = false := by rw [decide_eq_false_iff_not]; exact c2
    simp only [f2, go_sem, ↓reduceIte, reduceCtorEq, Nat.reduceLT, Nat.reduceEqDiff, Nat.reduceAdd, Nat.reduceMul, Nat.reduceSub, Nat.reduceLeDiff]
    refine Fz.bool ?_
    symm; rw [decide_eq_false_iff_not]; intro e; apply c2; injection e
  have f2 : decide (a2 = b2) = true := by rw [decide_eq_true_eq]; exact c2
  simp only [f2, go_sem, ↓reduceIte, reduceCtorEq, Nat.reduceLT, Nat.reduceEqDiff, Nat.reduceAdd, Nat.reduceMul, Nat.reduceSub, Nat.reduceLeDiff]
  by_cases c3 : a3 = b3
  case neg =>
    have f3 : (a3 == b3) = false := by simp [bytes_eq, c3]
    simp only [f3, go_sem, ↓reduceIte, reduceCtorEq, Nat.reduceLT, Nat.reduceEqDiff, Nat.reduceAdd, Nat.reduceMul, Nat.reduceSub, Nat.reduceLeDiff]
    refine Fz.bool ?_
    symm; rw [decide_eq_false_iff_not]; intro e; apply c3; injection e
  have f3 : (a3 == b3) = true := by simp [bytes_eq, c3]
  simp only [f3, go_sem, ↓reduceIte, reduceCtorEq, Nat.reduceLT, Nat.reduceEqDiff, Nat.reduceAdd, Nat.reduceMul, Nat.reduceSub, Nat.reduceLeDiff]
  refine Fz.bool ?_
  symm; rw [decide_eq_true_eq, c0, c1, c2, c3]
theorem SameCache (a b : Cache) (ha : a.ok) : Sp Try.prog 14 [.ag a.ds, .ag b.ds] (B (decide (a = b))) := by
  match a, b, ha with
  | .mk a0 a1 a2, .mk b0 b1 b2, ha =>
  simp only [Cache.ok] at ha
  obtain ⟨o0, o1⟩ := ha
  refine Sp.of_vc [] [.tmp 4] Try.func14 rfl (by kernel_rfl) Try.ntmps14 rfl (by simp) ?_
  simp only [Cache.ds, CacheEntry.sl, go_sem, ↓reduceIte, reduceCtorEq, Nat.reduceLT, Nat.reduceEqDiff, Nat.reduceAdd, Nat.reduceMul, Nat.reduceSub, Nat.reduceLeDiff]
  by_cases c0 : a0 = b0
  case neg =>
    have f0 : (a0 == b0) = false := by simp [bytes_eq, c0]
    simp only [f0, go_sem, ↓reduceIte, reduceCtorEq, Nat.reduceLT, Nat.reduceEqDiff, Nat.reduceAdd, Nat.reduceMul, Nat.reduceSub, Nat.reduceLeDiff]
    refine Fz.bool ?_
    symm; rw [decide_eq_false_iff_not]; intro e; apply c0; injection e
  have f0 : (a0 == b0) = true := by simp [bytes_eq, c0]
  simp only [f0, go_sem, ↓reduceIte, reduceCtorEq, Nat.reduceLT, Nat.reduceEqDiff, Nat.reduceAdd, Nat.reduceMul, Nat.reduceSub, Nat.reduceLeDiff]
  by_cases c1 : a1 = b1
  case neg =>
    have f1 : (a1 == b1) = false := by simp [bytes_eq, c1]
    simp only [f1, go_sem, ↓reduceIte, reduceCtorEq, Nat.reduceLT, Nat.reduceEqDiff, Nat.reduceAdd, Nat.reduceMul, Nat.reduceSub, Nat.reduceLeDiff]
    refine Fz.bool ?_
    symm; rw [decide_eq_false_iff_not]; intro e; apply c1; injection e
  have f1 : (a1 == b1) = true := by simp [bytes_eq, c1]
  simp only [f1, go_sem, ↓reduceIte, reduceCtorEq, Nat.reduceLT, Nat.reduceEqDiff, Nat.reduceAdd, Nat.reduceMul, Nat.reduceSub, Nat.reduceLeDiff]
  refine callK_intro _ (EqualFuncEntry a2 b2 _ o0 fun x hx y => sameEntry x y (CacheEntry.okS_mem o1 x hx)) (by simp only [List.nil_append, List.append_nil, List.forall_mem_cons]; exact ⟨CacheEntry.cl_sl a2, CacheEntry.cl_sl b2, by simp⟩) ?_
  by_cases c2 : a2 = b2
  case neg =>
    have f2 : decide (a2 = b2) = false := by rw [decide_eq_false_iff_not]; exact c2
    simp only [f2, go_sem, ↓reduceIte, reduceCtorEq, Nat.reduceLT, Nat.reduceEqDiff, Nat.reduceAdd, Nat.reduceMul, Nat.reduceSub, Nat.reduceLeDiff]
    refine Fz.bool ?_
    symm; rw [decide_eq_false_iff_not]; intro e; apply c2; injection e
  have f2 : decide (a2 = b2) = true := by rw [decide_eq_true_eq]; exact c2
  simp only [f2, go_sem, ↓reduceIte, reduceCtorEq, Nat.reduceLT, Nat.reduceEqDiff, Nat.reduceAdd, Nat.reduceMul, Nat.reduceSub, Nat.reduceLeDiff]
  refine Fz.bool ?_
  symm; rw [decide_eq_true_eq, c0, c1, c2]
theorem specSameCache (a b : Cache) (ha : a.ok) : Sp Try.prog 12 [.ag a.ds, .ag b.ds] (B (decide (a = b))) := by
  match a, b, ha with
  | .mk a0 a1 a2, .mk b0 b1 b2, ha =>
  simp only [Cache.ok] at ha
  obtain ⟨o0, o1⟩ := ha
  unfold maxLen at o0
  have hda : (CacheEntry.dsL a2).length = a2.length := CacheEntry.dsL_len a2
  have hdb : (CacheEntry.dsL b2).length = b2.length := CacheEntry.dsL_len b2
  refine Sp.of_vc [] [.tmp 4] Try.func12 rfl (by kernel_rfl) Try.ntmps12 rfl (by simp) ?_
  simp only [Cache.ds, CacheEntry.sl, go_sem, ↓reduceIte, reduceCtorEq, Nat.reduceLT, Nat.reduceEqDiff, Nat.reduceAdd, Nat.reduceMul, Nat.reduceSub, Nat.reduceLeDiff]
  by_cases c0 : a0 = b0
  case neg =>
    have f0 : (a0 != b0) = true := by simp [c0]
    simp only [f0, go_sem, ↓reduceIte, reduceCtorEq, Nat.reduceLT, Nat.reduceEqDiff, Nat.reduceAdd, Nat.reduceMul, Nat.reduceSub, Nat.reduceLeDiff]
    exact Fz.bool (by simp [c0])
  have f0 : (a0 != b0) = false := by simp [c0]
  simp only [f0, go_sem, ↓reduceIte, reduceCtorEq, Nat.reduceLT, Nat.reduceEqDiff, Nat.reduceAdd, Nat.reduceMul, Nat.reduceSub, Nat.reduceLeDiff]
  by_cases c1 : a1 = b1
  case neg =>
    have f1 : (a1 != b1) = true := by simp [c1]
    simp only [f1, go_sem, ↓reduceIte, reduceCtorEq, Nat.reduceLT, Nat.reduceEqDiff, Nat.reduceAdd, Nat.reduceMul, Nat.reduceSub, Nat.reduceLeDiff]
    exact Fz.bool (by simp [c1])
  have f1 : (a1 != b1) = false := by simp [c1]
  simp only [f1, go_sem, ↓reduceIte, reduceCtorEq, Nat.reduceLT, Nat.reduceEqDiff, Nat.reduceAdd, Nat.reduceMul, Nat.reduceSub, Nat.reduceLeDiff]
  simp only [hda, hdb, go_sem, ↓reduceIte, reduceCtorEq, Nat.reduceLT, Nat.reduceEqDiff, Nat.reduceAdd, Nat.reduceMul, Nat.reduceSub, Nat.reduceLeDiff]
  refine condK_split (fun h => ?_) (fun h => ?_)
  · simp only [h, go_sem, ↓reduceIte, reduceCtorEq, Nat.reduceLT, Nat.reduceEqDiff, Nat.reduceAdd, Nat.reduceMul, Nat.reduceSub, Nat.reduceLeDiff]
    refine Fz.bool ?_
    simp at h ⊢
    intro _ _ e; subst e; simp at h
  · have hl : a2.length = b2.length := by simp at h; omega
    simp only [h, go_sem, ↓reduceIte, reduceCtorEq, Nat.reduceLT, Nat.reduceEqDiff, Nat.reduceAdd, Nat.reduceMul, Nat.reduceSub, Nat.reduceLeDiff]
    refine loop_count 5 a2.length (fun k => Fw.Inv 44 [(2, .cp (Cache.ds (.mk a0 a1 a2))), (3, .cp (Cache.ds (.mk b0 b1 b2)))] (a2.take k = b2.take k)) rfl ⟨rfl, by simp [Cache.ds, CacheEntry.sl, envOf, setE], by simp⟩ ?_
    rintro k ⟨env, H, n, nt⟩ hk h5 ⟨rfl, hfs, hp⟩
    simp only [List.forall_mem_cons, Cache.ds, CacheEntry.sl] at h5 hfs
    obtain ⟨e0, e1, -⟩ := hfs
    simp only [h5, e0, e1, hda, go_sem, ↓reduceIte, reduceCtorEq, Nat.reduceLT, Nat.reduceEqDiff, Nat.reduceAdd, Nat.reduceMul, Nat.reduceSub, Nat.reduceLeDiff]
    refine condK_split (fun h => ?_) (fun h => ?_)
    · have hlt : k < a2.length := by simpa using h
      have hlb : k < b2.length := by omega
      have g0 := CacheEntry.dsL_get a2 k hlt
      have g1 := CacheEntry.dsL_get b2 k hlb
      simp only [h, h5, e0, e1, g0, g1, go_sem, ↓reduceIte, reduceCtorEq, Nat.reduceLT, Nat.reduceEqDiff, Nat.reduceAdd, Nat.reduceMul, Nat.reduceSub, Nat.reduceLeDiff]
      refine drawK_intro mixed (by kernel_rfl) ?_
      have hx := List.getElem_mem hlt
      refine callQ_intro _ (l41SameEntry a2[k] b2[k] (CacheEntry.okS_mem o1 _ hx)) (by simp; exact ⟨CacheEntry.cl _, CacheEntry.cl _⟩) rfl ?_
      by_cases hc : a2[k] = b2[k]
      · have ec : decide (a2[k] = b2[k]) = true := by simp [hc]
        simp only [ec, h5, go_sem, ↓reduceIte, reduceCtorEq, Nat.reduceLT, Nat.reduceEqDiff, Nat.reduceAdd, Nat.reduceMul, Nat.reduceSub, Nat.reduceLeDiff]
        refine nextC_mk (by simp [setE, wrap_succ k (by omega)]) hlt ⟨rfl, by simp [setE, e0, e1, Cache.ds, CacheEntry.sl], ?_⟩
        rw [List.take_succ_eq_append_getElem hlt, List.take_succ_eq_append_getElem hlb, hp, hc]
      · have ec : decide (a2[k] = b2[k]) = false := by simp [hc]
        simp only [ec, go_sem, ↓reduceIte, reduceCtorEq, Nat.reduceLT, Nat.reduceEqDiff, Nat.reduceAdd, Nat.reduceMul, Nat.reduceSub, Nat.reduceLeDiff]
        refine Fz.bool ?_
        simp
        intro _ _ e; subst e; exact hc rfl
    · have hk' : k = a2.length := by simp at h; omega
      simp only [h, go_sem, ↓reduceIte, reduceCtorEq, Nat.reduceLT, Nat.reduceEqDiff, Nat.reduceAdd, Nat.reduceMul, Nat.reduceSub, Nat.reduceLeDiff]
      refine Fz.bool ?_
      rw [hk', List.take_length, hl, List.take_length] at hp
      simp [hp, c0, c1]
theorem lawSameCache (a b : Cache) (ha : a.ok) (hb : b.ok) : Sp Try.prog 4 [.ag a.ds, .ag b.ds] (B true) := by
  have hca : Cl (.ag a.ds) := Cl.ag' (Cache.cl a)
  have hcb : Cl (.ag b.ds) := Cl.ag' (Cache.cl b)
  have hla := Cache.ds_len a
  have hlb := Cache.ds_len b
  have hta : List.take 3 a.ds = a.ds := List.take_of_length_le (by omega)
  have htb : List.take 3 b.ds = b.ds := List.take_of_length_le (by omega)
  have hoa : (a.ds).all oneD = true := by rw [List.all_eq_true]; exact Cache.one a
  have hob : (b.ds).all oneD = true := by rw [List.all_eq_true]; exact Cache.one b
  refine Sp.of_vc [] [.tmp 4] Try.func4 rfl (by kernel_rfl) Try.ntmps4 rfl (by simp) ?_
  simp only [hla, hlb, hta, htb, hoa, hob, go_sem, ↓reduceIte, reduceCtorEq, Nat.reduceLT, Nat.reduceEqDiff, Nat.reduceAdd, Nat.reduceMul, Nat.reduceSub, Nat.reduceLeDiff]
  refine callK_intro _ (szCache a 1048576 (by omega) (by omega) ha) (by simp; exact Cache.cl a) ?_
  by_cases s1 : (a.sz : Int) ≤ 1048576
  case neg =>
    have d1 : decide ((-1 : Int) < 0) = true := rfl
    simp only [szF_neg s1, d1, go_sem, ↓reduceIte, reduceCtorEq, Nat.reduceLT, Nat.reduceEqDiff, Nat.reduceAdd, Nat.reduceMul, Nat.reduceSub, Nat.reduceLeDiff]
    exact Fz.bool rfl
  have d1 : decide ((1048576 : Int) - a.sz < 0) = false := by simp; omega
  simp only [szF_pos s1, d1, hla, hlb, hta, htb, hoa, hob, go_sem, ↓reduceIte, reduceCtorEq, Nat.reduceLT, Nat.reduceEqDiff, Nat.reduceAdd, Nat.reduceMul, Nat.reduceSub, Nat.reduceLeDiff]
  refine callK_intro _ (szCache b _ (by omega) (by omega) hb) (by simp; exact Cache.cl b) ?_
  by_cases s2 : (b.sz : Int) ≤ 1048576 - a.sz
  case neg =>
    have d2 : decide ((-1 : Int) < 0) = true := rfl
    simp only [szF_neg s2, d2, go_sem, ↓reduceIte, reduceCtorEq, Nat.reduceLT, Nat.reduceEqDiff, Nat.reduceAdd, Nat.reduceMul, Nat.reduceSub, Nat.reduceLeDiff]
    exact Fz.bool rfl
  have d2 : decide ((1048576 : Int) - a.sz - b.sz < 0) = false := by simp; omega
  simp only [szF_pos s2, d2, hla, hlb, hta, htb, hoa, hob, go_sem, ↓reduceIte, reduceCtorEq, Nat.reduceLT, Nat.reduceEqDiff, Nat.reduceAdd, Nat.reduceMul, Nat.reduceSub, Nat.reduceLeDiff]
  refine drawK_intro mixed (by kernel_rfl) ?_
  refine callQ_intro _ (toCache a (by omega)) (by simp; exact Cache.cl a) rfl ?_
  simp only [hla, hlb, hta, htb, hoa, hob, go_sem, ↓reduceIte, reduceCtorEq, Nat.reduceLT, Nat.reduceEqDiff, Nat.reduceAdd, Nat.reduceMul, Nat.reduceSub, Nat.reduceLeDiff]
  refine callQ_intro _ (toCache b (by omega)) (by simp; exact Cache.cl b) rfl ?_
  simp only [hla, hlb, hta, htb, hoa, hob, go_sem, ↓reduceIte, reduceCtorEq, Nat.reduceLT, Nat.reduceEqDiff, Nat.reduceAdd, Nat.reduceMul, Nat.reduceSub, Nat.reduceLeDiff]
  refine callQ_intro _ (specSameCache a b ha) (by simp; exact ⟨Cache.cl a, Cache.cl b⟩) rfl ?_
  simp only [hla, hlb, hta, htb, hoa, hob, go_sem, ↓reduceIte, reduceCtorEq, Nat.reduceLT, Nat.reduceEqDiff, Nat.reduceAdd, Nat.reduceMul, Nat.reduceSub, Nat.reduceLeDiff]
  refine callK_intro _ (toCache a (by omega)) (by simp; exact Cache.cl a) ?_
  simp only [hla, hlb, hta, htb, hoa, hob, go_sem, ↓reduceIte, reduceCtorEq, Nat.reduceLT, Nat.reduceEqDiff, Nat.reduceAdd, Nat.reduceMul, Nat.reduceSub, Nat.reduceLeDiff]
  refine callK_intro _ (toCache b (by omega)) (by simp; exact Cache.cl b) ?_
  simp only [hla, hlb, hta, htb, hoa, hob, go_sem, ↓reduceIte, reduceCtorEq, Nat.reduceLT, Nat.reduceEqDiff, Nat.reduceAdd, Nat.reduceMul, Nat.reduceSub, Nat.reduceLeDiff]
  refine callK_intro _ (SameCache a b ha) (by simp; exact ⟨Cache.cl a, Cache.cl b⟩) ?_
  have d3 : (decide (a = b) != decide (a = b)) = false := by simp
  have dt : (!true) = false := rfl
  simp only [d3, hla, hlb, hta, htb, hoa, hob, go_sem, ↓reduceIte, reduceCtorEq, Nat.reduceLT, Nat.reduceEqDiff, Nat.reduceAdd, Nat.reduceMul, Nat.reduceSub, Nat.reduceLeDiff]
  refine drawK_intro mixed (by kernel_rfl) ?_
  refine callQ_intro _ (toCache a (by omega)) (by simp; exact Cache.cl a) rfl ?_
  simp only [hla, hlb, hta, htb, hoa, hob, go_sem, ↓reduceIte, reduceCtorEq, Nat.reduceLT, Nat.reduceEqDiff, Nat.reduceAdd, Nat.reduceMul, Nat.reduceSub, Nat.reduceLeDiff]
  refine callQ_intro _ (eqCache a a ha) (by simp; exact Cache.cl a) rfl ?_
  have ea : decide (a = a) = true := by simp
  simp only [ea, hla, hlb, hta, htb, hoa, hob, go_sem, ↓reduceIte, reduceCtorEq, Nat.reduceLT, Nat.reduceEqDiff, Nat.reduceAdd, Nat.reduceMul, Nat.reduceSub, Nat.reduceLeDiff]
  refine drawK_intro mixed (by kernel_rfl) ?_
  refine callQ_intro _ (toCache b (by omega)) (by simp; exact Cache.cl b) rfl ?_
  simp only [hla, hlb, hta, htb, hoa, hob, go_sem, ↓reduceIte, reduceCtorEq, Nat.reduceLT, Nat.reduceEqDiff, Nat.reduceAdd, Nat.reduceMul, Nat.reduceSub, Nat.reduceLeDiff]
  refine callQ_intro _ (eqCache b b hb) (by simp; exact Cache.cl b) rfl ?_
  have eb : decide (b = b) = true := by simp
  simp only [eb, hla, hlb, hta, htb, hoa, hob, go_sem, ↓reduceIte, reduceCtorEq, Nat.reduceLT, Nat.reduceEqDiff, Nat.reduceAdd, Nat.reduceMul, Nat.reduceSub, Nat.reduceLeDiff]
  exact Fz.bool rfl
end Go.Proofs.Ytjdeehcbhpakhaa
