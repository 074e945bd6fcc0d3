/-
  Contracts over data of the reference count of nodes, of free variables and of boxes. No condition.
-/
import Derived.Test.YtjdeehcbhpakhaaC5
namespace Go.Proofs.Ytjdeehcbhpakhaa
open Go.Fw
open Classical
set_option maxRecDepth 100000
set_option linter.unusedSimpArgs false
set_option linter.unusedVariables false
theorem nodesF_bad {k v : Int} {d : List Int} {ks : List Core} {a l : Int} (h : nodeF (.mk k v d ks) = false) : -1 = nodesF (.mk k v d ks) a l := by
  unfold nodesF; rw [if_neg]; rintro ⟨h1, _⟩; simp [Core.good, h] at h1
theorem l06Nodes_step (k0 v : Int) (d : List Int) (ks : List Core) (a l : Int) (ha0 : 0 ≤ a) (ha : a ≤ 80) (hl0 : 0 ≤ l) (hl1 : l ≤ 400) (hdl : d.length ≤ maxLen) (hl : ks.length ≤ maxLen)
    (hel : ∀ x ∈ ks, ∀ a l : Int, 0 ≤ a → a ≤ 80 → 0 ≤ l → l ≤ 400 → Sp Try.prog 75 [.cp x.ds, I a, I l] (I (nodesF x a l))) :
    Sp Try.prog 75 [.cp (Core.ds (.mk k0 v d ks)), I a, I l] (I (nodesF (.mk k0 v d ks) a l)) := by
  unfold maxLen at hl hdl
  have hda : (Core.dsL ks).length = ks.length := Core.dsL_len ks
  have hdd : (d.map fun n => [I n]).length = d.length := by simp
  have hds : Core.ds (.mk k0 v d ks) = [I k0, I v, ints d, .sl 4 (Core.dsL ks)] := by rw [Core.ds]
  have hnd : nodeF (.mk k0 v d ks) = (inR ks.length (shapeF k0).1 (shapeF k0).2.1 && inR d.length (shapeF k0).2.2.1 (shapeF k0).2.2.2 && valueF k0 v && d.all fun z => inR z 0 23) := rfl
  have hdp : (Core.mk k0 v d ks).dep = 1 + Core.depS ks := by rw [Core.dep]
  have hcn : (Core.mk k0 v d ks).cnt = 1 + Core.cntS ks := by rw [Core.cnt]
  have hgd : (Core.mk k0 v d ks).good = (nodeF (.mk k0 v d ks) && ks.all Core.good) := by rw [Core.good, Core.goodS_eq]
  refine Sp.of_vc [] [.tmp 6] Try.func75 rfl (by kernel_rfl) Try.ntmps75 rfl (by simp) ?_
  simp only [Core.ds, hda, go_sem, ↓reduceIte, reduceCtorEq, Nat.reduceLT, Nat.reduceEqDiff, Nat.reduceAdd, Nat.reduceMul, Nat.reduceSub, Nat.reduceLeDiff]
  refine callK_intro _ (l06Shape k0) (by simp) ?_
  simp only [hda, hdd, go_sem, ↓reduceIte, reduceCtorEq, Nat.reduceLT, Nat.reduceEqDiff, Nat.reduceAdd, Nat.reduceMul, Nat.reduceSub, Nat.reduceLeDiff]
  by_cases c1 : a < 1
  · have f1 : decide (a < 1) = true := by simp [c1]
    simp only [f1, go_sem, ↓reduceIte, reduceCtorEq, Nat.reduceLT, Nat.reduceEqDiff, Nat.reduceAdd, Nat.reduceMul, Nat.reduceSub, Nat.reduceLeDiff]
    refine Fz.int ?_
    unfold nodesF; rw [if_neg]; omega
  have f1 : decide (a < 1) = false := by simp; omega
  simp only [f1, go_sem, ↓reduceIte, reduceCtorEq, Nat.reduceLT, Nat.reduceEqDiff, Nat.reduceAdd, Nat.reduceMul, Nat.reduceSub, Nat.reduceLeDiff]
  by_cases c2 : l < 1
  · have f2 : decide (l < 1) = true := by simp [c2]
    simp only [f2, go_sem, ↓reduceIte, reduceCtorEq, Nat.reduceLT, Nat.reduceEqDiff, Nat.reduceAdd, Nat.reduceMul, Nat.reduceSub, Nat.reduceLeDiff]
    refine Fz.int ?_
    unfold nodesF; rw [if_neg]; omega
  have f2 : decide (l < 1) = false := by simp; omega
  simp only [f2, hda, hdd, go_sem, ↓reduceIte, reduceCtorEq, Nat.reduceLT, Nat.reduceEqDiff, Nat.reduceAdd, Nat.reduceMul, Nat.reduceSub, Nat.reduceLeDiff]
  refine callK_intro _ (l00In _ _ _) (by simp) ?_
  cases c3 : inR ks.length (shapeF k0).1 (shapeF k0).2.1
  · simp only [go_sem, ↓reduceIte, reduceCtorEq, Nat.reduceLT, Nat.reduceEqDiff, Nat.reduceAdd, Nat.reduceMul, Nat.reduceSub, Nat.reduceLeDiff]
    exact Fz.int (nodesF_bad (by rw [hnd, c3]; rfl))
  simp only [hda, hdd, go_sem, ↓reduceIte, reduceCtorEq, Nat.reduceLT, Nat.reduceEqDiff, Nat.reduceAdd, Nat.reduceMul, Nat.reduceSub, Nat.reduceLeDiff]
  refine callK_intro _ (l00In _ _ _) (by simp) ?_
  cases c4 : inR d.length (shapeF k0).2.2.1 (shapeF k0).2.2.2
  · simp only [go_sem, ↓reduceIte, reduceCtorEq, Nat.reduceLT, Nat.reduceEqDiff, Nat.reduceAdd, Nat.reduceMul, Nat.reduceSub, Nat.reduceLeDiff]
    exact Fz.int (nodesF_bad (by rw [hnd, c3, c4]; rfl))
  simp only [hda, hdd, go_sem, ↓reduceIte, reduceCtorEq, Nat.reduceLT, Nat.reduceEqDiff, Nat.reduceAdd, Nat.reduceMul, Nat.reduceSub, Nat.reduceLeDiff]
  refine callK_intro _ (by have := l06Value k0 v d ks []; rw [hds, List.append_nil] at this; exact this) (by simp [ints]; exact Core.clL _) ?_
  cases c5 : valueF k0 v
  · simp only [go_sem, ↓reduceIte, reduceCtorEq, Nat.reduceLT, Nat.reduceEqDiff, Nat.reduceAdd, Nat.reduceMul, Nat.reduceSub, Nat.reduceLeDiff]
    exact Fz.int (nodesF_bad (by rw [hnd, c3, c4, c5]; rfl))
  simp only [hda, hdd, go_sem, ↓reduceIte, reduceCtorEq, Nat.reduceLT, Nat.reduceEqDiff, Nat.reduceAdd, Nat.reduceMul, Nat.reduceSub, Nat.reduceLeDiff]
  refine loop_count 11 d.length (fun k => Fw.Inv 103 [(0, .cp [I k0, I v, ints d, .sl 4 (Core.dsL ks)]), (1, I a), (2, I l)] ((d.take k).all (fun z => inR z 0 23) = true)) rfl ⟨rfl, by simp [ints, envOf, setE], by simp⟩ ?_
  rintro k ⟨env, H, n, nt⟩ hk h5 ⟨rfl, hfs, hp⟩
  simp only [List.forall_mem_cons, ints] at h5 hfs
  obtain ⟨e0, e1, e2, -⟩ := hfs
  simp only [h5, e0, e1, e2, hda, hdd, go_sem, ↓reduceIte, reduceCtorEq, Nat.reduceLT, Nat.reduceEqDiff, Nat.reduceAdd, Nat.reduceMul, Nat.reduceSub, Nat.reduceLeDiff]
  refine condK_split (fun h => ?_) (fun h => ?_)
  · have hlt : k < d.length := by simpa using h
    have g0 : (d.map fun n => [I n])[k]? = some [I d[k]] := by simp [hlt]
    simp only [h, h5, e0, e1, e2, g0, go_sem, ↓reduceIte, reduceCtorEq, Nat.reduceLT, Nat.reduceEqDiff, Nat.reduceAdd, Nat.reduceMul, Nat.reduceSub, Nat.reduceLeDiff]
    refine callK_intro _ (l00In _ _ _) (by simp) ?_
    cases hc : inR d[k] 0 23
    · simp only [go_sem, ↓reduceIte, reduceCtorEq, Nat.reduceLT, Nat.reduceEqDiff, Nat.reduceAdd, Nat.reduceMul, Nat.reduceSub, Nat.reduceLeDiff]
      exact Fz.int (nodesF_bad (by rw [hnd, all_of_take hlt hc, Bool.and_false]))
    · simp only [h5, go_sem, ↓reduceIte, reduceCtorEq, Nat.reduceLT, Nat.reduceEqDiff, Nat.reduceAdd, Nat.reduceMul, Nat.reduceSub, Nat.reduceLeDiff]
      refine nextC_mk (by simp [setE, wrap_succ k (by omega)]) hlt ⟨rfl, by simp [setE, e0, e1, e2, ints], ?_⟩
      rw [all_take_succ hlt, hp, hc]; rfl
  have hk' : k = d.length := by simp at h; omega
  rw [hk', List.take_length] at hp
  have hn : nodeF (.mk k0 v d ks) = true := by rw [hnd, c3, c4, c5, hp]; rfl
  simp only [h, e0, e1, e2, hda, hdd, go_sem, ↓reduceIte, reduceCtorEq, Nat.reduceLT, Nat.reduceEqDiff, Nat.reduceAdd, Nat.reduceMul, Nat.reduceSub, Nat.reduceLeDiff]
  refine loop_count 13 ks.length (fun k => Fw.Inv 103 [(0, .cp [I k0, I v, ints d, .sl 4 (Core.dsL ks)]), (1, I a), (2, I l), (12, I ((1 + Core.cntS (ks.take k) : Nat) : Int))] ((ks.take k).all Core.good = true ∧ ((1 + Core.depS (ks.take k) : Nat) : Int) ≤ a ∧ ((1 + Core.cntS (ks.take k) : Nat) : Int) ≤ l)) rfl ⟨rfl, ?_, ?_⟩ ?_
  · simp only [e0, e1, e2, ints, List.take_zero, Core.cntS, List.forall_mem_cons, List.not_mem_nil, false_implies, implies_true, setE, ↓reduceIte, Nat.reduceEqDiff, reduceCtorEq, and_true, true_and, and_self, eq_self]
    rfl
  · simp [Core.depS, Core.cntS]; omega
  clear e0 e1 e2 h h5 hp hk hk' f1 f2
  rintro k ⟨env, H, n, nt⟩ hk h5 ⟨rfl, hfs, hp, hp2, hp3⟩
  simp only [List.forall_mem_cons, ints] at h5 hfs
  obtain ⟨e0, e1, e2, e3, -⟩ := hfs
  simp only [h5, e0, e1, e2, e3, hda, hdd, go_sem, ↓reduceIte, reduceCtorEq, Nat.reduceLT, Nat.reduceEqDiff, Nat.reduceAdd, Nat.reduceMul, Nat.reduceSub, Nat.reduceLeDiff]
  refine condK_split (fun h => ?_) (fun h => ?_)
  · have hlt : k < ks.length := by simpa using h
    have g0 := Core.dsL_get ks k hlt
    have hx := List.getElem_mem hlt
    have w1 : IntKind.i64.wrap (a - 1) = a - 1 := Go.IntWalk.i64_in _ (by omega)
    have w2 : IntKind.i64.wrap (l - ((1 + Core.cntS (ks.take k) : Nat) : Int)) = l - ((1 + Core.cntS (ks.take k) : Nat) : Int) := Go.IntWalk.i64_in _ (by omega)
    simp only [h, h5, e0, e1, e2, e3, g0, w1, w2, go_sem, ↓reduceIte, reduceCtorEq, Nat.reduceLT, Nat.reduceEqDiff, Nat.reduceAdd, Nat.reduceMul, Nat.reduceSub, Nat.reduceLeDiff]
    refine callK_intro _ (hel ks[k] hx (a - 1) (l - ((1 + Core.cntS (ks.take k) : Nat) : Int)) (by omega) (by omega) (by omega) (by omega)) (by simp; exact Core.cl _) ?_
    have hd1 := Core.depS_le ks (k + 1)
    have hc1 := Core.cntS_le ks (k + 1)
    rw [Core.depS_take ks k hlt] at hd1
    rw [Core.cntS_take ks k hlt] at hc1
    by_cases hq : ks[k].good = true ∧ (ks[k].dep : Int) ≤ a - 1 ∧ (ks[k].cnt : Int) ≤ l - ((1 + Core.cntS (ks.take k) : Nat) : Int)
    · have hr : nodesF ks[k] (a - 1) (l - ((1 + Core.cntS (ks.take k) : Nat) : Int)) = ks[k].cnt := by unfold nodesF; rw [if_pos hq]
      have hr2 : decide ((ks[k].cnt : Int) < 0) = false := by simp
      have w3 := wrap_add (1 + Core.cntS (ks.take k)) ks[k].cnt (by omega)
      have m2 : 1 + Core.cntS (ks.take k) + ks[k].cnt = 1 + Core.cntS (ks.take (k + 1)) := by rw [Core.cntS_take ks k hlt]; omega
      simp only [hr, hr2, h5, e0, e1, e2, e3, w3, go_sem, ↓reduceIte, reduceCtorEq, Nat.reduceLT, Nat.reduceEqDiff, Nat.reduceAdd, Nat.reduceMul, Nat.reduceSub, Nat.reduceLeDiff]
      refine nextC_mk (by simp [setE, wrap_succ k (by omega)]) hlt ⟨rfl, ?_, by rw [all_take_succ hlt, hp, hq.1]; rfl, ?_, ?_⟩
      · simp only [e0, e1, e2, ints, m2, List.forall_mem_cons, List.not_mem_nil, false_implies, implies_true, setE, ↓reduceIte, Nat.reduceEqDiff, reduceCtorEq, and_true, true_and, and_self, eq_self]
      · rw [Core.depS_take ks k hlt]; omega
      · rw [Core.cntS_take ks k hlt]; omega
    · have hr : nodesF ks[k] (a - 1) (l - ((1 + Core.cntS (ks.take k) : Nat) : Int)) = -1 := by unfold nodesF; rw [if_neg hq]
      have hr2 : decide ((-1 : Int) < 0) = true := rfl
      simp only [hr, hr2, go_sem, ↓reduceIte, reduceCtorEq, Nat.reduceLT, Nat.reduceEqDiff, Nat.reduceAdd, Nat.reduceMul, Nat.reduceSub, Nat.reduceLeDiff]
      refine Fz.int ?_
      unfold nodesF
      rw [if_neg]
      rintro ⟨q1, q2, q3⟩
      rw [hgd, hn, Bool.true_and, List.all_eq_true] at q1
      exact hq ⟨q1 _ hx, by omega, by omega⟩
  · have hk' : k = ks.length := by simp at h; omega
    subst hk'
    rw [List.take_length] at hp hp2 hp3
    simp only [h, e3, go_sem, ↓reduceIte, reduceCtorEq, Nat.reduceLT, Nat.reduceEqDiff, Nat.reduceAdd, Nat.reduceMul, Nat.reduceSub, Nat.reduceLeDiff]
    refine Fz.int ?_
    unfold nodesF
    rw [if_pos ⟨by rw [hgd, hn, hp]; rfl, by omega, by omega⟩, List.take_length, hcn]
theorem l06Nodes (c : Core) (a l : Int) (ha0 : 0 ≤ a) (ha : a ≤ 80) (hl0 : 0 ≤ l) (hl1 : l ≤ 400) (ho : c.ok) : Sp Try.prog 75 [.cp c.ds, I a, I l] (I (nodesF c a l)) := by
  match c, ho with
  | .mk k v d ks, ho =>
  simp only [Core.ok] at ho
  exact l06Nodes_step k v d ks a l ha0 ha hl0 hl1 ho.1 ho.2.1 fun x hx a l h1 h2 h3 h4 => l06Nodes x a l h1 h2 h3 h4 (Core.okS_mem ho.2.2 x hx)
termination_by c
decreasing_by all_goals (have := List.sizeOf_lt_of_mem hx; simp; omega)
theorem l06Ok (c : Core) (ho : c.ok) : Sp Try.prog 64 [.cp c.ds] (B c.valid) := by
  refine Sp.of_vc [] [.tmp 2] Try.func64 rfl (by kernel_rfl) Try.ntmps64 rfl (by simp) ?_
  simp only [go_sem, ↓reduceIte, reduceCtorEq, Nat.reduceLT, Nat.reduceEqDiff, Nat.reduceAdd, Nat.reduceMul, Nat.reduceSub, Nat.reduceLeDiff]
  refine callK_intro _ (l06Nodes c 80 400 (by omega) (by omega) (by omega) (by omega) ho) (by simp; exact Core.cl _) ?_
  simp only [go_sem, ↓reduceIte, reduceCtorEq, Nat.reduceLT, Nat.reduceEqDiff, Nat.reduceAdd, Nat.reduceMul, Nat.reduceSub, Nat.reduceLeDiff]
  exact Fz.bool (nodesF_pos c)
end Go.Proofs.Ytjdeehcbhpakhaa
