/-
  Contracts over data of the checks of core terms. No condition.
-/
import Derived.Test.YtjdeehcbhpakhaaC3
import Derived.Test.YtjdeehcbhpakhaaK1
namespace Go.Proofs.Ytjdeehcbhpakhaa
open Go.Fw
open Classical
set_option maxRecDepth 100000
set_option linter.unusedSimpArgs false
set_option linter.unusedVariables false
theorem binds (k v : Int) (d : List Int) (ks : List Core) (i : Nat) : Sp Try.prog 69 [.ag (Core.ds (.mk k v d ks)), I i] (I (bindsF k i)) := by
  refine Sp.of_vc [] [.tmp 4] Try.func69 rfl (by kernel_rfl) Try.ntmps69 rfl (by simp) ?_
  simp only [Core.ds, go_sem, ↓reduceIte, reduceCtorEq, Nat.reduceLT, Nat.reduceEqDiff, Nat.reduceAdd, Nat.reduceMul, Nat.reduceSub, Nat.reduceLeDiff]
  repeat' (first | (refine guardK_split (fun h => ?_) (fun h => ?_) <;> simp only [h, go_sem, ↓reduceIte, reduceCtorEq, Nat.reduceLT, Nat.reduceEqDiff, Nat.reduceAdd, Nat.reduceMul, Nat.reduceSub, Nat.reduceLeDiff]) | (refine condK_split (fun h => ?_) (fun h => ?_) <;> simp only [h, go_sem, ↓reduceIte, reduceCtorEq, Nat.reduceLT, Nat.reduceEqDiff, Nat.reduceAdd, Nat.reduceMul, Nat.reduceSub, Nat.reduceLeDiff]) | (refine callK_intro _ (truth _) (by simp) ?_; simp only [go_sem, ↓reduceIte, reduceCtorEq, Nat.reduceLT, Nat.reduceEqDiff, Nat.reduceAdd, Nat.reduceMul, Nat.reduceSub, Nat.reduceLeDiff]))
  all_goals (refine Fz.int ?_; simp_all [bindsF, nat_one])
theorem l06Binds (k v : Int) (d : List Int) (ks : List Core) (i : Nat) (t : List D) : Sp Try.prog 76 [.cp (Core.ds (.mk k v d ks) ++ t), I i] (I (bindsF k i)) := by
  refine Sp.of_vc [] [.tmp 4] Try.func76 rfl (by kernel_rfl) Try.ntmps76 rfl (by simp) ?_
  simp only [Core.ds, List.cons_append, List.nil_append, go_sem, ↓reduceIte, reduceCtorEq, Nat.reduceLT, Nat.reduceEqDiff, Nat.reduceAdd, Nat.reduceMul, Nat.reduceSub, Nat.reduceLeDiff]
  repeat' (first | (refine guardK_split (fun h => ?_) (fun h => ?_) <;> simp only [h, go_sem, ↓reduceIte, reduceCtorEq, Nat.reduceLT, Nat.reduceEqDiff, Nat.reduceAdd, Nat.reduceMul, Nat.reduceSub, Nat.reduceLeDiff]) | (refine condK_split (fun h => ?_) (fun h => ?_) <;> simp only [h, go_sem, ↓reduceIte, reduceCtorEq, Nat.reduceLT, Nat.reduceEqDiff, Nat.reduceAdd, Nat.reduceMul, Nat.reduceSub, Nat.reduceLeDiff]))
  all_goals (refine Fz.int ?_; simp_all [bindsF, nat_one])
theorem l06Shape (k : Int) : Sp Try.prog 81 [I k] (.tp [I (shapeF k).1, I (shapeF k).2.1, I (shapeF k).2.2.1, I (shapeF k).2.2.2]) := by
  refine Sp.of_vc [] [.tmp 2, .tmp 3, .tmp 4, .tmp 5] Try.func81 rfl (by kernel_rfl) Try.ntmps81 rfl (by simp) ?_
  simp only [go_sem, ↓reduceIte, reduceCtorEq, Nat.reduceLT, Nat.reduceEqDiff, Nat.reduceAdd, Nat.reduceMul, Nat.reduceSub, Nat.reduceLeDiff]
  repeat' (first | (refine guardK_split (fun h => ?_) (fun h => ?_) <;> simp only [h, go_sem, ↓reduceIte, reduceCtorEq, Nat.reduceLT, Nat.reduceEqDiff, Nat.reduceAdd, Nat.reduceMul, Nat.reduceSub, Nat.reduceLeDiff]) | (refine condK_split (fun h => ?_) (fun h => ?_) <;> simp only [h, go_sem, ↓reduceIte, reduceCtorEq, Nat.reduceLT, Nat.reduceEqDiff, Nat.reduceAdd, Nat.reduceMul, Nat.reduceSub, Nat.reduceLeDiff]))
  all_goals (refine Fz.same ?_ (by simp); simp_all [shapeF])
theorem l06Value (k v : Int) (d : List Int) (ks : List Core) (t : List D) : Sp Try.prog 82 [.cp (Core.ds (.mk k v d ks) ++ t)] (B (valueF k v)) := by
  refine Sp.of_vc [] [.tmp 2] Try.func82 rfl (by kernel_rfl) Try.ntmps82 rfl (by simp) ?_
  simp only [Core.ds, List.cons_append, List.nil_append, go_sem, ↓reduceIte, reduceCtorEq, Nat.reduceLT, Nat.reduceEqDiff, Nat.reduceAdd, Nat.reduceMul, Nat.reduceSub, Nat.reduceLeDiff]
  repeat' (first | (refine guardK_split (fun h => ?_) (fun h => ?_) <;> simp only [h, go_sem, ↓reduceIte, reduceCtorEq, Nat.reduceLT, Nat.reduceEqDiff, Nat.reduceAdd, Nat.reduceMul, Nat.reduceSub, Nat.reduceLeDiff]) | (refine condK_split (fun h => ?_) (fun h => ?_) <;> simp only [h, go_sem, ↓reduceIte, reduceCtorEq, Nat.reduceLT, Nat.reduceEqDiff, Nat.reduceAdd, Nat.reduceMul, Nat.reduceSub, Nat.reduceLeDiff]) | (refine callK_intro _ (l00In _ _ _) (by simp) ?_; simp only [go_sem, ↓reduceIte, reduceCtorEq, Nat.reduceLT, Nat.reduceEqDiff, Nat.reduceAdd, Nat.reduceMul, Nat.reduceSub, Nat.reduceLeDiff]))
  all_goals (refine Fz.bool ?_; simp_all [valueF, int_beq])
theorem notIndex (n : Int) : Sp Try.prog 86 [I n] (B (!inR n 0 23)) := by
  refine Sp.of_vc [] [.tmp 2] Try.func86 rfl (by kernel_rfl) Try.ntmps86 rfl (by simp) ?_
  simp only [go_sem, ↓reduceIte, reduceCtorEq, Nat.reduceLT, Nat.reduceEqDiff, Nat.reduceAdd, Nat.reduceMul, Nat.reduceSub, Nat.reduceLeDiff]
  refine callK_intro _ (isDefIndex n) (by simp) ?_
  simp only [go_sem, ↓reduceIte, reduceCtorEq, Nat.reduceLT, Nat.reduceEqDiff, Nat.reduceAdd, Nat.reduceMul, Nat.reduceSub, Nat.reduceLeDiff]
  exact Fz.bool rfl
theorem validCoreNode (k v : Int) (d : List Int) (ks : List Core) (hd : d.length ≤ maxLen) : Sp Try.prog 77 [.ag (Core.ds (.mk k v d ks))] (B (nodeF (.mk k v d ks))) := by
  have hda : (Core.dsL ks).length = ks.length := Core.dsL_len ks
  have hni : ∀ z ∈ d, Sp Try.prog 86 ([] ++ [I z] ++ []) (B ((fun z => !inR z 0 23) z)) := fun z _ => by simpa using notIndex z
  refine Sp.of_vc [] [.tmp 2] Try.func77 rfl (by kernel_rfl) Try.ntmps77 rfl (by simp) ?_
  simp only [Core.ds, hda, go_sem, ↓reduceIte, reduceCtorEq, Nat.reduceLT, Nat.reduceEqDiff, Nat.reduceAdd, Nat.reduceMul, Nat.reduceSub, Nat.reduceLeDiff]
  refine drawK_intro mixed (by kernel_rfl) ?_
  repeat' (first | (refine guardK_split (fun h => ?_) (fun h => ?_) <;> simp only [h, go_sem, ↓reduceIte, reduceCtorEq, Nat.reduceLT, Nat.reduceEqDiff, Nat.reduceAdd, Nat.reduceMul, Nat.reduceSub, Nat.reduceLeDiff]) | (refine condK_split (fun h => ?_) (fun h => ?_) <;> simp only [h, go_sem, ↓reduceIte, reduceCtorEq, Nat.reduceLT, Nat.reduceEqDiff, Nat.reduceAdd, Nat.reduceMul, Nat.reduceSub, Nat.reduceLeDiff]) | (refine drawK_intro mixed (by kernel_rfl) ?_) | (refine callK_intro _ (isInt _) (by simp) ?_; simp only [hda, go_sem, ↓reduceIte, reduceCtorEq, Nat.reduceLT, Nat.reduceEqDiff, Nat.reduceAdd, Nat.reduceMul, Nat.reduceSub, Nat.reduceLeDiff]) | (refine callK_intro _ (isOperator _) (by simp) ?_; simp only [hda, go_sem, ↓reduceIte, reduceCtorEq, Nat.reduceLT, Nat.reduceEqDiff, Nat.reduceAdd, Nat.reduceMul, Nat.reduceSub, Nat.reduceLeDiff]) | (refine callK_intro _ (isDefIndex _) (by simp) ?_; simp only [hda, go_sem, ↓reduceIte, reduceCtorEq, Nat.reduceLT, Nat.reduceEqDiff, Nat.reduceAdd, Nat.reduceMul, Nat.reduceSub, Nat.reduceLeDiff]) | (refine callK_intro _ (containsFuncInt d _ _ [] [] hd (by simp) (by simp) hni) (by simp) ?_; simp only [hda, go_sem, ↓reduceIte, reduceCtorEq, Nat.reduceLT, Nat.reduceEqDiff, Nat.reduceAdd, Nat.reduceMul, Nat.reduceSub, Nat.reduceLeDiff]))
  all_goals (refine Fz.bool ?_)
  all_goals (try rw [not_any_not])
  all_goals (simp_all [nodeF, shapeF, valueF, inR, int_beq] <;> try omega)
end Go.Proofs.Ytjdeehcbhpakhaa
