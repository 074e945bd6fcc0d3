/-
  Contracts over data of the size and depth of core terms. No condition.
-/
import Derived.Test.YtjdeehcbhpakhaaC4
namespace Go.Proofs.Ytjdeehcbhpakhaa
open Go.Fw
open Classical
set_option maxRecDepth 100000
set_option linter.unusedSimpArgs false
set_option linter.unusedVariables false
theorem wrap_add (a b : Nat) (h : a + b < 9223372036854775808) : IntKind.i64.wrap ((a : Int) + (b : Int)) = ((a + b : Nat) : Int) := by
  have := Go.IntWalk.i64_in ((a : Int) + b) (by omega)
  rw [this]; omega
theorem coreExtent_step (k0 v : Int) (d : List Int) (ks : List Core) (hb : Core.cntS ks < 9000000000000000000) (hl : ks.length ≤ maxLen)
    (hel : ∀ x ∈ ks, Sp Try.prog 78 [.ag x.ds] (.tp [I x.dep, I x.cnt])) :
    Sp Try.prog 78 [.ag (Core.ds (.mk k0 v d ks))] (.tp [I (Core.mk k0 v d ks).dep, I (Core.mk k0 v d ks).cnt]) := by
  unfold maxLen at hl
  have hda : (Core.dsL ks).length = ks.length := Core.dsL_len ks
  refine Sp.of_vc [] [.tmp 2, .tmp 3] Try.func78 rfl (by kernel_rfl) Try.ntmps78 rfl (by simp) ?_
  simp only [Core.ds, hda, go_sem, ↓reduceIte, reduceCtorEq, Nat.reduceLT, Nat.reduceEqDiff, Nat.reduceAdd, Nat.reduceMul, Nat.reduceSub, Nat.reduceLeDiff]
  refine loop_count 11 ks.length (fun k => Fw.Inv 30 [(9, Core.sl ks), (10, I ks.length), (2, I ((1 + Core.depS (ks.take k) : Nat) : Int)), (3, I ((1 + Core.cntS (ks.take k) : Nat) : Int))] True) rfl ⟨rfl, by simp [Core.sl, envOf, setE, Core.depS, Core.cntS], trivial⟩ ?_
  rintro k ⟨env, H, n, nt⟩ hk h5 ⟨rfl, hfs, -⟩
  simp only [List.forall_mem_cons, Core.sl] at h5 hfs
  obtain ⟨e0, e1, e2, e3, -⟩ := hfs
  simp only [h5, e0, e1, e2, e3, hda, go_sem, ↓reduceIte, reduceCtorEq, Nat.reduceLT, Nat.reduceEqDiff, Nat.reduceAdd, Nat.reduceMul, Nat.reduceSub, Nat.reduceLeDiff]
  refine condK_split (fun h => ?_) (fun h => ?_)
  · have hlt : k < ks.length := by simpa using h
    have hx := List.getElem_mem hlt
    have g0 := Core.dsL_get ks k hlt
    have hd0 := Core.ds_len ks[k]
    have ht0 : List.take 4 ks[k].ds = ks[k].ds := List.take_of_length_le (by omega)
    have ho0 : (ks[k].ds).all oneD = true := by rw [List.all_eq_true]; exact Core.one ks[k]
    simp only [h, h5, e0, e1, e2, e3, g0, hd0, ht0, ho0, List.take_zero, List.nil_append, go_sem, ↓reduceIte, reduceCtorEq, Nat.reduceLT, Nat.reduceEqDiff, Nat.reduceAdd, Nat.reduceMul, Nat.reduceSub, Nat.reduceLeDiff]
    refine callK_intro _ (hel ks[k] hx) (by simp; exact Core.cl _) ?_
    have hc1 := Core.cnt_mem hx
    have hc2 := Core.dep_le_cnt ks[k]
    have hc3 := Core.cntS_le ks (k + 1)
    rw [Core.cntS_take ks k hlt] at hc3
    have hc4 := Core.depS_le_cntS (ks.take k)
    have w1 := wrap_succ ks[k].dep (by omega)
    have w2 := wrap_add (1 + Core.cntS (ks.take k)) ks[k].cnt (by omega)
    simp only [h5, e0, e1, e2, e3, w1, w2, hd0, ht0, ho0, List.take_zero, List.nil_append, go_sem, ↓reduceIte, reduceCtorEq, Nat.reduceLT, Nat.reduceEqDiff, Nat.reduceAdd, Nat.reduceMul, Nat.reduceSub, Nat.reduceLeDiff]
    have m1 : (if ((ks[k].dep + 1 : Nat) : Int) > ((1 + Core.depS (ks.take k) : Nat) : Int) then ((ks[k].dep + 1 : Nat) : Int) else ((1 + Core.depS (ks.take k) : Nat) : Int)) = ((1 + Core.depS (ks.take (k + 1)) : Nat) : Int) := by
      rw [Core.depS_take ks k hlt]; split <;> omega
    have m2 : 1 + Core.cntS (ks.take k) + ks[k].cnt = 1 + Core.cntS (ks.take (k + 1)) := by rw [Core.cntS_take ks k hlt]; omega
    refine nextC_mk (by simp [setE, wrap_succ k (by omega)]) hlt ⟨rfl, ?_, trivial⟩
    simp only [e0, e1, m1, m2, Core.sl, List.forall_mem_cons, List.not_mem_nil, false_implies, implies_true, setE, ↓reduceIte, Nat.reduceEqDiff, reduceCtorEq, and_true, true_and, and_self, eq_self]
  · have hk' : k = ks.length := by simp at h; omega
    subst hk'
    simp only [h, e2, e3, go_sem, ↓reduceIte, reduceCtorEq, Nat.reduceLT, Nat.reduceEqDiff, Nat.reduceAdd, Nat.reduceMul, Nat.reduceSub, Nat.reduceLeDiff]
    refine Fz.same ?_ (by simp)
    simp [Core.dep, Core.cnt]
theorem coreExtent (c : Core) (hs : c.sz ≤ 1048576) (ho : c.ok) : Sp Try.prog 78 [.ag c.ds] (.tp [I c.dep, I c.cnt]) := by
  match c, hs, ho with
  | .mk k v d ks, hs, ho =>
  simp only [Core.ok] at ho
  simp only [Core.sz] at hs
  have hb := Core.cntS_le_szS ks
  exact coreExtent_step k v d ks (by omega) ho.2.1 fun x hx => coreExtent x (by have := Core.sz_mem hx; omega) (Core.okS_mem ho.2.2 x hx)
termination_by c
decreasing_by all_goals (have := List.sizeOf_lt_of_mem hx; simp; omega)
theorem coreFits (c : Core) (hs : c.sz ≤ 1048576) (ho : c.ok) : Sp Try.prog 68 [.ag c.ds] (B (decide (c.dep ≤ 80 ∧ c.cnt ≤ 400))) := by
  have hd0 := Core.ds_len c
  have ht0 : List.take 4 c.ds = c.ds := List.take_of_length_le (by omega)
  have ho0 : (c.ds).all oneD = true := by rw [List.all_eq_true]; exact Core.one c
  refine Sp.of_vc [] [.tmp 2] Try.func68 rfl (by kernel_rfl) Try.ntmps68 rfl (by simp) ?_
  simp only [hd0, ht0, ho0, List.take_zero, List.nil_append, go_sem, ↓reduceIte, reduceCtorEq, Nat.reduceLT, Nat.reduceEqDiff, Nat.reduceAdd, Nat.reduceMul, Nat.reduceSub, Nat.reduceLeDiff]
  refine callK_intro _ (coreExtent c hs ho) (by simp; exact Core.cl _) ?_
  simp only [go_sem, ↓reduceIte, reduceCtorEq, Nat.reduceLT, Nat.reduceEqDiff, Nat.reduceAdd, Nat.reduceMul, Nat.reduceSub, Nat.reduceLeDiff]
  by_cases c1 : c.dep ≤ 80
  · have f1 : decide ((c.dep : Int) ≤ 80) = true := by simp; omega
    simp only [f1, go_sem, ↓reduceIte, reduceCtorEq, Nat.reduceLT, Nat.reduceEqDiff, Nat.reduceAdd, Nat.reduceMul, Nat.reduceSub, Nat.reduceLeDiff]
    refine Fz.bool ?_
    rw [decide_eq_decide]
    omega
  · have f1 : decide ((c.dep : Int) ≤ 80) = false := by simp; omega
    simp only [f1, go_sem, ↓reduceIte, reduceCtorEq, Nat.reduceLT, Nat.reduceEqDiff, Nat.reduceAdd, Nat.reduceMul, Nat.reduceSub, Nat.reduceLeDiff]
    refine Fz.bool ?_
    simp [c1]
theorem coreShape_step (k0 v : Int) (d : List Int) (ks : List Core) (hdl : d.length ≤ maxLen) (hb : Core.cntS ks < 9000000000000000000) (hl : ks.length ≤ maxLen)
    (hel : ∀ x ∈ ks, Sp Try.prog 67 [.ag x.ds] (.tp [I (if x.good then x.dep else 0), I (if x.good then x.cnt else 0), B x.good])) :
    Sp Try.prog 67 [.ag (Core.ds (.mk k0 v d ks))] (.tp [I (if (Core.mk k0 v d ks).good then (Core.mk k0 v d ks).dep else 0), I (if (Core.mk k0 v d ks).good then (Core.mk k0 v d ks).cnt else 0), B (Core.mk k0 v d ks).good]) := by
  have hdl' := hdl
  unfold maxLen at hl
  have hda : (Core.dsL ks).length = ks.length := Core.dsL_len ks
  have hds : Core.ds (.mk k0 v d ks) = [I k0, I v, ints d, .sl 4 (Core.dsL ks)] := by rw [Core.ds]
  have hgd : (Core.mk k0 v d ks).good = (nodeF (.mk k0 v d ks) && ks.all Core.good) := by rw [Core.good, Core.goodS_eq]
  refine Sp.of_vc [] [.tmp 2, .tmp 3, .tmp 4] Try.func67 rfl (by kernel_rfl) Try.ntmps67 rfl (by simp) ?_
  simp only [Core.ds, hda, go_sem, ↓reduceIte, reduceCtorEq, Nat.reduceLT, Nat.reduceEqDiff, Nat.reduceAdd, Nat.reduceMul, Nat.reduceSub, Nat.reduceLeDiff]
  refine callK_intro _ (by have := validCoreNode k0 v d ks hdl; rw [hds] at this; exact this) (by simp [ints]; exact Core.clL _) ?_
  cases hn : nodeF (.mk k0 v d ks)
  · simp only [go_sem, ↓reduceIte, reduceCtorEq, Nat.reduceLT, Nat.reduceEqDiff, Nat.reduceAdd, Nat.reduceMul, Nat.reduceSub, Nat.reduceLeDiff]
    refine Fz.same ?_ (by simp)
    simp [hgd, hn]
  simp only [hda, go_sem, ↓reduceIte, reduceCtorEq, Nat.reduceLT, Nat.reduceEqDiff, Nat.reduceAdd, Nat.reduceMul, Nat.reduceSub, Nat.reduceLeDiff]
  refine loop_count 16 ks.length (fun k => Fw.Inv 38 [(14, Core.sl ks), (15, I ks.length), (2, I ((1 + Core.depS (ks.take k) : Nat) : Int)), (3, I ((1 + Core.cntS (ks.take k) : Nat) : Int))] ((ks.take k).all Core.good = true)) rfl ⟨rfl, by simp [Core.sl, envOf, setE, Core.depS, Core.cntS], by simp⟩ ?_
  rintro k ⟨env, H, n, nt⟩ hk h5 ⟨rfl, hfs, hp⟩
  simp only [List.forall_mem_cons, Core.sl] at h5 hfs
  obtain ⟨e0, e1, e2, e3, -⟩ := hfs
  simp only [h5, e0, e1, e2, e3, hda, go_sem, ↓reduceIte, reduceCtorEq, Nat.reduceLT, Nat.reduceEqDiff, Nat.reduceAdd, Nat.reduceMul, Nat.reduceSub, Nat.reduceLeDiff]
  refine condK_split (fun h => ?_) (fun h => ?_)
  · have hlt : k < ks.length := by simpa using h
    have hx := List.getElem_mem hlt
    have g0 := Core.dsL_get ks k hlt
    have hd0 := Core.ds_len ks[k]
    have ht0 : List.take 4 ks[k].ds = ks[k].ds := List.take_of_length_le (by omega)
    have ho0 : (ks[k].ds).all oneD = true := by rw [List.all_eq_true]; exact Core.one ks[k]
    simp only [h, h5, e0, e1, e2, e3, g0, hd0, ht0, ho0, List.take_zero, List.nil_append, go_sem, ↓reduceIte, reduceCtorEq, Nat.reduceLT, Nat.reduceEqDiff, Nat.reduceAdd, Nat.reduceMul, Nat.reduceSub, Nat.reduceLeDiff]
    refine callK_intro _ (hel ks[k] hx) (by simp; exact Core.cl _) ?_
    have hc1 := Core.cnt_mem hx
    have hc2 := Core.dep_le_cnt ks[k]
    have hc3 := Core.cntS_le ks (k + 1)
    rw [Core.cntS_take ks k hlt] at hc3
    have hc4 := Core.depS_le_cntS (ks.take k)
    cases hg : ks[k].good
    · simp only [h5, e0, e1, e2, e3, hd0, ht0, ho0, List.take_zero, List.nil_append, go_sem, ↓reduceIte, reduceCtorEq, Nat.reduceLT, Nat.reduceEqDiff, Nat.reduceAdd, Nat.reduceMul, Nat.reduceSub, Nat.reduceLeDiff]
      refine Fz.same ?_ (by simp)
      simp [hgd, all_of_take hlt hg]
    have w1 := wrap_succ ks[k].dep (by omega)
    have w2 := wrap_add (1 + Core.cntS (ks.take k)) ks[k].cnt (by omega)
    simp only [h5, e0, e1, e2, e3, w1, w2, hd0, ht0, ho0, List.take_zero, List.nil_append, go_sem, ↓reduceIte, reduceCtorEq, Nat.reduceLT, Nat.reduceEqDiff, Nat.reduceAdd, Nat.reduceMul, Nat.reduceSub, Nat.reduceLeDiff]
    have m1 : (if ((ks[k].dep + 1 : Nat) : Int) > ((1 + Core.depS (ks.take k) : Nat) : Int) then ((ks[k].dep + 1 : Nat) : Int) else ((1 + Core.depS (ks.take k) : Nat) : Int)) = ((1 + Core.depS (ks.take (k + 1)) : Nat) : Int) := by
      rw [Core.depS_take ks k hlt]; split <;> omega
    have m2 : 1 + Core.cntS (ks.take k) + ks[k].cnt = 1 + Core.cntS (ks.take (k + 1)) := by rw [Core.cntS_take ks k hlt]; omega
    refine nextC_mk (by simp [setE, wrap_succ k (by omega)]) hlt ⟨rfl, ?_, by rw [all_take_succ hlt, hp, hg]; rfl⟩
    simp only [e0, e1, m1, m2, Core.sl, List.forall_mem_cons, List.not_mem_nil, false_implies, implies_true, setE, ↓reduceIte, Nat.reduceEqDiff, reduceCtorEq, and_true, true_and, and_self, eq_self]
  · have hk' : k = ks.length := by simp at h; omega
    subst hk'
    rw [List.take_length] at hp
    simp only [h, e2, e3, go_sem, ↓reduceIte, reduceCtorEq, Nat.reduceLT, Nat.reduceEqDiff, Nat.reduceAdd, Nat.reduceMul, Nat.reduceSub, Nat.reduceLeDiff]
    refine Fz.same ?_ (by simp)
    simp [Core.dep, Core.cnt, hgd, hn, hp]
theorem coreShape (c : Core) (hs : c.sz ≤ 1048576) (ho : c.ok) : Sp Try.prog 67 [.ag c.ds] (.tp [I (if c.good then c.dep else 0), I (if c.good then c.cnt else 0), B c.good]) := by
  match c, hs, ho with
  | .mk k v d ks, hs, ho =>
  simp only [Core.ok] at ho
  simp only [Core.sz] at hs
  have hb := Core.cntS_le_szS ks
  exact coreShape_step k v d ks ho.1 (by omega) ho.2.1 fun x hx => coreShape x (by have := Core.sz_mem hx; omega) (Core.okS_mem ho.2.2 x hx)
termination_by c
decreasing_by all_goals (have := List.sizeOf_lt_of_mem hx; simp; omega)
theorem validCore (c : Core) (hs : c.sz ≤ 1048576) (ho : c.ok) : Sp Try.prog 51 [.ag c.ds] (B c.valid) := by
  have hd0 := Core.ds_len c
  have ht0 : List.take 4 c.ds = c.ds := List.take_of_length_le (by omega)
  have ho0 : (c.ds).all oneD = true := by rw [List.all_eq_true]; exact Core.one c
  refine Sp.of_vc [] [.tmp 2] Try.func51 rfl (by kernel_rfl) Try.ntmps51 rfl (by simp) ?_
  simp only [hd0, ht0, ho0, List.take_zero, List.nil_append, go_sem, ↓reduceIte, reduceCtorEq, Nat.reduceLT, Nat.reduceEqDiff, Nat.reduceAdd, Nat.reduceMul, Nat.reduceSub, Nat.reduceLeDiff]
  refine callK_intro _ (coreShape c hs ho) (by simp; exact Core.cl _) ?_
  cases hg : c.good
  · simp only [go_sem, ↓reduceIte, reduceCtorEq, Nat.reduceLT, Nat.reduceEqDiff, Nat.reduceAdd, Nat.reduceMul, Nat.reduceSub, Nat.reduceLeDiff]
    exact Fz.bool (by simp [Core.valid, hg])
  · simp only [hd0, ht0, ho0, List.take_zero, List.nil_append, go_sem, ↓reduceIte, reduceCtorEq, Nat.reduceLT, Nat.reduceEqDiff, Nat.reduceAdd, Nat.reduceMul, Nat.reduceSub, Nat.reduceLeDiff]
    refine callK_intro _ (coreFits c hs ho) (by simp; exact Core.cl _) ?_
    simp only [go_sem, ↓reduceIte, reduceCtorEq, Nat.reduceLT, Nat.reduceEqDiff, Nat.reduceAdd, Nat.reduceMul, Nat.reduceSub, Nat.reduceLeDiff]
    exact Fz.bool (by simp [Core.valid, hg])
end Go.Proofs.Ytjdeehcbhpakhaa
