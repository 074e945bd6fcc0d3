/-
  Contracts over data of free variables, boxes and counts. No condition.
-/
import Derived.Test.YtjdeehcbhpakhaaC6
namespace Go.Proofs.Ytjdeehcbhpakhaa
open Go.Fw
open Classical
set_option maxRecDepth 100000
set_option linter.unusedSimpArgs false
set_option linter.unusedVariables false
theorem bindsF_01 (k : Int) (i : Nat) : bindsF k i = 0 ∨ bindsF k i = 1 := by unfold bindsF; split <;> simp
theorem l06Above_step (k0 v : Int) (d : List Int) (ks : List Core) (m : Int) (hm : 0 ≤ m) (hb : m + (1 + Core.depS ks : Nat) < 1000000000000) (hl : ks.length ≤ maxLen)
    (hel : ∀ x ∈ ks, ∀ m : Int, 0 ≤ m → m + x.dep < 1000000000000 → Sp Try.prog 65 [.cp x.ds, I m] (B (x.above m))) :
    Sp Try.prog 65 [.cp (Core.ds (.mk k0 v d ks)), I m] (B ((Core.mk k0 v d ks).above m)) := by
  unfold maxLen at hl
  have hda : (Core.dsL ks).length = ks.length := Core.dsL_len ks
  have hds : Core.ds (.mk k0 v d ks) = [I k0, I v, ints d, .sl 4 (Core.dsL ks)] := by rw [Core.ds]
  have hab : (Core.mk k0 v d ks).above m = if k0 = 1 then decide (v ≥ m) else Core.aboveS k0 ks 0 m := by rw [Core.above]
  refine Sp.of_vc [] [.tmp 4] Try.func65 rfl (by kernel_rfl) Try.ntmps65 rfl (by simp) ?_
  simp only [Core.ds, hda, go_sem, ↓reduceIte, reduceCtorEq, Nat.reduceLT, Nat.reduceEqDiff, Nat.reduceAdd, Nat.reduceMul, Nat.reduceSub, Nat.reduceLeDiff]
  by_cases c1 : k0 = 1
  · have f1 : (k0 == 1) = true := by simp [c1]
    simp only [f1, go_sem, ↓reduceIte, reduceCtorEq, Nat.reduceLT, Nat.reduceEqDiff, Nat.reduceAdd, Nat.reduceMul, Nat.reduceSub, Nat.reduceLeDiff]
    exact Fz.bool (by rw [hab, if_pos c1])
  have f1 : (k0 == 1) = false := by simp [c1]
  rw [if_neg c1] at hab
  simp only [f1, hda, go_sem, ↓reduceIte, reduceCtorEq, Nat.reduceLT, Nat.reduceEqDiff, Nat.reduceAdd, Nat.reduceMul, Nat.reduceSub, Nat.reduceLeDiff]
  refine loop_count 5 ks.length (fun k => Fw.Inv 38 [(0, .cp [I k0, I v, ints d, .sl 4 (Core.dsL ks)]), (1, I m)] (Core.aboveS k0 (ks.take k) 0 m = false)) rfl ⟨rfl, by simp [ints, envOf, setE], by simp [Core.aboveS]⟩ ?_
  rintro k ⟨env, H, n, nt⟩ hk h5 ⟨rfl, hfs, hp⟩
  simp only [List.forall_mem_cons, ints] at h5 hfs
  obtain ⟨e0, e1, -⟩ := hfs
  simp only [h5, e0, e1, hda, go_sem, ↓reduceIte, reduceCtorEq, Nat.reduceLT, Nat.reduceEqDiff, Nat.reduceAdd, Nat.reduceMul, Nat.reduceSub, Nat.reduceLeDiff]
  refine condK_split (fun h => ?_) (fun h => ?_)
  · have hlt : k < ks.length := by simpa using h
    have g0 := Core.dsL_get ks k hlt
    have hx := List.getElem_mem hlt
    simp only [h, h5, e0, e1, g0, go_sem, ↓reduceIte, reduceCtorEq, Nat.reduceLT, Nat.reduceEqDiff, Nat.reduceAdd, Nat.reduceMul, Nat.reduceSub, Nat.reduceLeDiff]
    refine drawK_intro mixed (by kernel_rfl) ?_
    refine callQ_intro _ (by have := l06Binds k0 v d ks k []; rw [hds, List.append_nil] at this; exact this) (by simp [ints]; exact Core.clL _) rfl ?_
    have hb1 := bindsF_01 k0 k
    have hdm := Core.dep_mem hx
    have w1 : IntKind.i64.wrap (m + bindsF k0 k) = m + bindsF k0 k := Go.IntWalk.i64_in _ (by omega)
    simp only [h5, e0, e1, g0, w1, go_sem, ↓reduceIte, reduceCtorEq, Nat.reduceLT, Nat.reduceEqDiff, Nat.reduceAdd, Nat.reduceMul, Nat.reduceSub, Nat.reduceLeDiff]
    refine callQ_intro _ (hel ks[k] hx _ (by omega) (by omega)) (by simp; exact Core.cl _) rfl ?_
    have hs := Core.aboveS_succ k0 m ks 0 k hlt
    rw [Nat.zero_add, hp, Bool.false_or] at hs
    cases hq : (ks[k]).above (m + bindsF k0 k)
    · simp only [h5, go_sem, ↓reduceIte, reduceCtorEq, Nat.reduceLT, Nat.reduceEqDiff, Nat.reduceAdd, Nat.reduceMul, Nat.reduceSub, Nat.reduceLeDiff]
      refine nextC_mk (by simp [setE, wrap_succ k (by omega)]) hlt ⟨rfl, ?_, by rw [hs, hq]⟩
      simp only [e0, e1, ints, List.forall_mem_cons, List.not_mem_nil, false_implies, implies_true, setE, ↓reduceIte, Nat.reduceEqDiff, reduceCtorEq, and_true, true_and, and_self, eq_self]
    · simp only [go_sem, ↓reduceIte, reduceCtorEq, Nat.reduceLT, Nat.reduceEqDiff, Nat.reduceAdd, Nat.reduceMul, Nat.reduceSub, Nat.reduceLeDiff]
      exact Fz.bool (by rw [hab, Core.aboveS_mono k0 m ks 0 (k + 1) (by rw [hs, hq])])
  · have hk' : k = ks.length := by simp at h; omega
    rw [hk', List.take_length] at hp
    simp only [h, go_sem, ↓reduceIte, reduceCtorEq, Nat.reduceLT, Nat.reduceEqDiff, Nat.reduceAdd, Nat.reduceMul, Nat.reduceSub, Nat.reduceLeDiff]
    exact Fz.bool (by rw [hab, hp])
theorem l06Above (c : Core) (m : Int) (hm : 0 ≤ m) (hb : m + c.dep < 1000000000000) (ho : c.ok) : Sp Try.prog 65 [.cp c.ds, I m] (B (c.above m)) := by
  match c, hb, ho with
  | .mk k v d ks, hb, ho =>
  simp only [Core.ok] at ho
  rw [Core.dep] at hb
  exact l06Above_step k v d ks m hm hb ho.2.1 fun x hx m h1 h2 => l06Above x m h1 h2 (Core.okS_mem ho.2.2 x hx)
termination_by c
decreasing_by all_goals (have := List.sizeOf_lt_of_mem hx; simp; omega)
theorem closedBelow_step (k0 v : Int) (d : List Int) (ks : List Core) (m : Int) (hm : 0 ≤ m) (hb : m + (1 + Core.depS ks : Nat) < 1000000000000) (hl : ks.length ≤ maxLen)
    (hel : ∀ x ∈ ks, ∀ m : Int, 0 ≤ m → m + x.dep < 1000000000000 → Sp Try.prog 52 [.ag x.ds, I m] (B (x.under m))) :
    Sp Try.prog 52 [.ag (Core.ds (.mk k0 v d ks)), I m] (B ((Core.mk k0 v d ks).under m)) := by
  unfold maxLen at hl
  have hda : (Core.dsL ks).length = ks.length := Core.dsL_len ks
  have hds : Core.ds (.mk k0 v d ks) = [I k0, I v, ints d, .sl 4 (Core.dsL ks)] := by rw [Core.ds]
  have hab : (Core.mk k0 v d ks).under m = (!(decide (k0 = 1) && decide (v ≥ m)) && Core.underS k0 ks 0 m) := by rw [Core.under]
  refine Sp.of_vc [] [.tmp 4] Try.func52 rfl (by kernel_rfl) Try.ntmps52 rfl (by simp) ?_
  simp only [Core.ds, hda, go_sem, ↓reduceIte, reduceCtorEq, Nat.reduceLT, Nat.reduceEqDiff, Nat.reduceAdd, Nat.reduceMul, Nat.reduceSub, Nat.reduceLeDiff]
  repeat' (first | (refine guardK_split (fun h => ?_) (fun h => ?_) <;> simp only [h, go_sem, ↓reduceIte, reduceCtorEq, Nat.reduceLT, Nat.reduceEqDiff, Nat.reduceAdd, Nat.reduceMul, Nat.reduceSub, Nat.reduceLeDiff]) | (refine condK_split (fun h => ?_) (fun h => ?_) <;> simp only [h, go_sem, ↓reduceIte, reduceCtorEq, Nat.reduceLT, Nat.reduceEqDiff, Nat.reduceAdd, Nat.reduceMul, Nat.reduceSub, Nat.reduceLeDiff]))
  · refine Fz.bool ?_
    simp_all
  all_goals
    have hc : (!(decide (k0 = 1) && decide (v ≥ m))) = true := by simp_all
    rw [hc, Bool.true_and] at hab
    simp only [hda, go_sem, ↓reduceIte, reduceCtorEq, Nat.reduceLT, Nat.reduceEqDiff, Nat.reduceAdd, Nat.reduceMul, Nat.reduceSub, Nat.reduceLeDiff]
    refine loop_count 19 ks.length (fun k => Fw.Inv 33 [(2, .cp [I k0, I v, ints d, .sl 4 (Core.dsL ks)]), (1, I m), (17, .sl 4 (Core.dsL ks)), (18, I ks.length)] (Core.underS k0 (ks.take k) 0 m = true)) rfl ⟨rfl, by simp [ints, envOf, setE], by simp [Core.underS]⟩ ?_
    rintro k ⟨env, H, n, nt⟩ hk h5 ⟨rfl, hfs, hp⟩
    simp only [List.forall_mem_cons, ints] at h5 hfs
    obtain ⟨e0, e1, e2, e3, -⟩ := hfs
    simp only [h5, e0, e1, e2, e3, hda, go_sem, ↓reduceIte, reduceCtorEq, Nat.reduceLT, Nat.reduceEqDiff, Nat.reduceAdd, Nat.reduceMul, Nat.reduceSub, Nat.reduceLeDiff]
    refine condK_split (fun h => ?_) (fun h => ?_)
    · have hlt : k < ks.length := by simpa using h
      have g0 := Core.dsL_get ks k hlt
      have hx := List.getElem_mem hlt
      have hd0 := Core.ds_len ks[k]
      have ht0 : List.take 4 ks[k].ds = ks[k].ds := List.take_of_length_le (by omega)
      have ho0 : (ks[k].ds).all oneD = true := by rw [List.all_eq_true]; exact Core.one ks[k]
      simp only [h, h5, e0, e1, e2, e3, g0, hd0, ht0, ho0, List.take_zero, List.nil_append, go_sem, ↓reduceIte, reduceCtorEq, Nat.reduceLT, Nat.reduceEqDiff, Nat.reduceAdd, Nat.reduceMul, Nat.reduceSub, Nat.reduceLeDiff]
      refine drawK_intro mixed (by kernel_rfl) ?_
      refine callQ_intro _ (by have := binds k0 v d ks k; rw [hds] at this; exact this) (by simp [ints]; exact Core.clL _) rfl ?_
      have hb1 := bindsF_01 k0 k
      have hdm := Core.dep_mem hx
      have w1 : IntKind.i64.wrap (m + bindsF k0 k) = m + bindsF k0 k := Go.IntWalk.i64_in _ (by omega)
      simp only [h5, e0, e1, g0, w1, hd0, ht0, ho0, List.take_zero, List.nil_append, go_sem, ↓reduceIte, reduceCtorEq, Nat.reduceLT, Nat.reduceEqDiff, Nat.reduceAdd, Nat.reduceMul, Nat.reduceSub, Nat.reduceLeDiff]
      refine callQ_intro _ (hel ks[k] hx _ (by omega) (by omega)) (by simp; exact Core.cl _) rfl ?_
      have hs := Core.underS_succ k0 m ks 0 k hlt
      rw [Nat.zero_add, hp, Bool.true_and] at hs
      cases hq : (ks[k]).under (m + bindsF k0 k)
      · simp only [go_sem, ↓reduceIte, reduceCtorEq, Nat.reduceLT, Nat.reduceEqDiff, Nat.reduceAdd, Nat.reduceMul, Nat.reduceSub, Nat.reduceLeDiff]
        exact Fz.bool (by rw [hab, Core.underS_mono k0 m ks 0 (k + 1) (by rw [hs, hq])])
      · simp only [h5, go_sem, ↓reduceIte, reduceCtorEq, Nat.reduceLT, Nat.reduceEqDiff, Nat.reduceAdd, Nat.reduceMul, Nat.reduceSub, Nat.reduceLeDiff]
        refine nextC_mk (by simp [setE, wrap_succ k (by omega)]) hlt ⟨rfl, ?_, by rw [hs, hq]⟩
        simp only [e0, e1, e2, e3, ints, List.forall_mem_cons, List.not_mem_nil, false_implies, implies_true, setE, ↓reduceIte, Nat.reduceEqDiff, reduceCtorEq, and_true, true_and, and_self, eq_self]
    · have hk' : k = ks.length := by simp at h; omega
      rw [hk', List.take_length] at hp
      simp only [h, go_sem, ↓reduceIte, reduceCtorEq, Nat.reduceLT, Nat.reduceEqDiff, Nat.reduceAdd, Nat.reduceMul, Nat.reduceSub, Nat.reduceLeDiff]
      exact Fz.bool (by rw [hab, hp])
theorem closedBelow (c : Core) (m : Int) (hm : 0 ≤ m) (hb : m + c.dep < 1000000000000) (ho : c.ok) : Sp Try.prog 52 [.ag c.ds, I m] (B (c.under m)) := by
  match c, hb, ho with
  | .mk k v d ks, hb, ho =>
  simp only [Core.ok] at ho
  rw [Core.dep] at hb
  exact closedBelow_step k v d ks m hm hb ho.2.1 fun x hx m h1 h2 => closedBelow x m h1 h2 (Core.okS_mem ho.2.2 x hx)
termination_by c
decreasing_by all_goals (have := List.sizeOf_lt_of_mem hx; simp; omega)
theorem dep_small (c : Core) (hs : c.sz ≤ 1048576) : (0 : Int) + c.dep < 1000000000000 := by
  have := Core.dep_le_cnt c
  have := Core.cnt_le_sz c
  omega
theorem l06Closed (c : Core) (hs : c.sz ≤ 1048576) (ho : c.ok) : Sp Try.prog 46 [.cp c.ds] (B (c.valid && !c.above 0)) := by
  refine Sp.of_vc [] [.tmp 2] Try.func46 rfl (by kernel_rfl) Try.ntmps46 rfl (by simp) ?_
  simp only [go_sem, ↓reduceIte, reduceCtorEq, Nat.reduceLT, Nat.reduceEqDiff, Nat.reduceAdd, Nat.reduceMul, Nat.reduceSub, Nat.reduceLeDiff]
  refine callK_intro _ (l06Ok c ho) (by simp; exact Core.cl _) ?_
  cases hv : c.valid
  · simp only [go_sem, ↓reduceIte, reduceCtorEq, Nat.reduceLT, Nat.reduceEqDiff, Nat.reduceAdd, Nat.reduceMul, Nat.reduceSub, Nat.reduceLeDiff]
    exact Fz.bool rfl
  simp only [go_sem, ↓reduceIte, reduceCtorEq, Nat.reduceLT, Nat.reduceEqDiff, Nat.reduceAdd, Nat.reduceMul, Nat.reduceSub, Nat.reduceLeDiff]
  refine callK_intro _ (l06Above c 0 (by omega) (dep_small c hs) ho) (by simp; exact Core.cl _) ?_
  simp only [go_sem, ↓reduceIte, reduceCtorEq, Nat.reduceLT, Nat.reduceEqDiff, Nat.reduceAdd, Nat.reduceMul, Nat.reduceSub, Nat.reduceLeDiff]
  exact Fz.bool rfl
theorem isClosed (c : Core) (hs : c.sz ≤ 1048576) (ho : c.ok) : Sp Try.prog 29 [.ag c.ds] (B (c.valid && !c.above 0)) := by
  have hd0 := Core.ds_len c
  have ht0 : List.take 4 c.ds = c.ds := List.take_of_length_le (by omega)
  have ho0 : (c.ds).all oneD = true := by rw [List.all_eq_true]; exact Core.one c
  refine Sp.of_vc [] [.tmp 2] Try.func29 rfl (by kernel_rfl) Try.ntmps29 rfl (by simp) ?_
  simp only [hd0, ht0, ho0, List.take_zero, List.nil_append, go_sem, ↓reduceIte, reduceCtorEq, Nat.reduceLT, Nat.reduceEqDiff, Nat.reduceAdd, Nat.reduceMul, Nat.reduceSub, Nat.reduceLeDiff]
  refine callK_intro _ (validCore c hs ho) (by simp; exact Core.cl _) ?_
  cases hv : c.valid
  · simp only [go_sem, ↓reduceIte, reduceCtorEq, Nat.reduceLT, Nat.reduceEqDiff, Nat.reduceAdd, Nat.reduceMul, Nat.reduceSub, Nat.reduceLeDiff]
    exact Fz.bool rfl
  simp only [hd0, ht0, ho0, List.take_zero, List.nil_append, go_sem, ↓reduceIte, reduceCtorEq, Nat.reduceLT, Nat.reduceEqDiff, Nat.reduceAdd, Nat.reduceMul, Nat.reduceSub, Nat.reduceLeDiff]
  refine callK_intro _ (closedBelow c 0 (by omega) (dep_small c hs) ho) (by simp; exact Core.cl _) ?_
  simp only [go_sem, ↓reduceIte, reduceCtorEq, Nat.reduceLT, Nat.reduceEqDiff, Nat.reduceAdd, Nat.reduceMul, Nat.reduceSub, Nat.reduceLeDiff]
  refine Fz.bool ?_
  have hg : c.good = true := by simp only [Core.valid, Bool.and_eq_true] at hv; exact hv.1
  rw [Core.under_eq c 0 hg]
theorem isBoxed (c : Core) : Sp Try.prog 54 [.ag c.ds] (B (boxed c)) := by
  obtain ⟨k, v, d, ks⟩ := c
  refine Sp.of_vc [] [.tmp 2] Try.func54 rfl (by kernel_rfl) Try.ntmps54 rfl (by simp) ?_
  simp only [Core.ds, go_sem, ↓reduceIte, reduceCtorEq, Nat.reduceLT, Nat.reduceEqDiff, Nat.reduceAdd, Nat.reduceMul, Nat.reduceSub, Nat.reduceLeDiff]
  repeat' (first | (refine guardK_split (fun h => ?_) (fun h => ?_) <;> simp only [h, go_sem, ↓reduceIte, reduceCtorEq, Nat.reduceLT, Nat.reduceEqDiff, Nat.reduceAdd, Nat.reduceMul, Nat.reduceSub, Nat.reduceLeDiff]) | (refine condK_split (fun h => ?_) (fun h => ?_) <;> simp only [h, go_sem, ↓reduceIte, reduceCtorEq, Nat.reduceLT, Nat.reduceEqDiff, Nat.reduceAdd, Nat.reduceMul, Nat.reduceSub, Nat.reduceLeDiff]))
  all_goals (refine Fz.bool ?_; simp_all [boxed, int_beq])
theorem anyCore_step (p : Core → Bool) (f : FuncId) (first caps : List D) (k0 v : Int) (d : List Int) (ks : List Core) (hl : ks.length ≤ maxLen) (hf : ∀ d ∈ first, Cl d) (hc : ∀ d ∈ caps, Cl d)
    (hp : ∀ x, Sp Try.prog f (first ++ [.ag x.ds] ++ caps) (B (p x)))
    (hel : ∀ x ∈ ks, Sp Try.prog 53 [.ag x.ds, .fn f first caps] (B (x.anyC p))) :
    Sp Try.prog 53 [.ag (Core.ds (.mk k0 v d ks)), .fn f first caps] (B ((Core.mk k0 v d ks).anyC p)) := by
  have hds : Core.ds (.mk k0 v d ks) = [I k0, I v, ints d, .sl 4 (Core.dsL ks)] := by rw [Core.ds]
  have hel2 : ∀ x ∈ ks, Sp Try.prog 71 ([] ++ [.ag x.ds] ++ [.cp [.fn f first caps]]) (B (x.anyC p)) := fun c hx => by
    simp only [List.nil_append, List.cons_append]
    have hd0 := Core.ds_len c
    have ht0 : List.take 4 c.ds = c.ds := List.take_of_length_le (by omega)
    have ho0 : (c.ds).all oneD = true := by rw [List.all_eq_true]; exact Core.one c
    refine Sp.of_vc [] [.tmp 3] Try.func71 rfl (by kernel_rfl) Try.ntmps71 rfl (by simp) ?_
    simp only [hd0, ht0, ho0, List.take_zero, List.nil_append, go_sem, ↓reduceIte, reduceCtorEq, Nat.reduceLT, Nat.reduceEqDiff, Nat.reduceAdd, Nat.reduceMul, Nat.reduceSub, Nat.reduceLeDiff]
    refine callK_intro _ (hel c hx) (by simp only [List.nil_append, List.append_nil, List.forall_mem_cons]; exact ⟨Cl.ag' (Core.cl _), Cl.fn' hf hc, by simp⟩) ?_
    simp only [go_sem, ↓reduceIte, reduceCtorEq, Nat.reduceLT, Nat.reduceEqDiff, Nat.reduceAdd, Nat.reduceMul, Nat.reduceSub, Nat.reduceLeDiff]
    exact Fz.bool rfl
  refine Sp.of_vc [] [.tmp 4] Try.func53 rfl (by kernel_rfl) Try.ntmps53 rfl (by simp) ?_
  simp only [Core.ds, go_sem, ↓reduceIte, reduceCtorEq, Nat.reduceLT, Nat.reduceEqDiff, Nat.reduceAdd, Nat.reduceMul, Nat.reduceSub, Nat.reduceLeDiff]
  refine callK_intro _ (by have := hp (.mk k0 v d ks); rw [hds] at this; exact this) (by simp only [List.forall_mem_append, List.forall_mem_cons]; exact ⟨⟨hf, Cl.ag' (by simp [ints]; exact Core.clL _), by simp⟩, hc⟩) ?_
  cases hq : p (.mk k0 v d ks)
  · simp only [go_sem, ↓reduceIte, reduceCtorEq, Nat.reduceLT, Nat.reduceEqDiff, Nat.reduceAdd, Nat.reduceMul, Nat.reduceSub, Nat.reduceLeDiff]
    refine callK_intro _ (containsFuncCore ks (Core.anyC p) _ [] [.cp [.fn f first caps]] hl (by simp) (by simp only [List.forall_mem_cons]; exact ⟨Cl.cp' (by simp only [List.forall_mem_cons]; exact ⟨Cl.fn' hf hc, by simp⟩), by simp⟩) hel2)
      (by simp only [List.nil_append, List.append_nil, List.forall_mem_cons]; exact ⟨Core.cl_sl ks, Cl.fn' (by simp) (by simp only [List.forall_mem_cons]; exact ⟨Cl.cp' (by simp only [List.forall_mem_cons]; exact ⟨Cl.fn' hf hc, by simp⟩), by simp⟩), by simp⟩) ?_
    simp only [go_sem, ↓reduceIte, reduceCtorEq, Nat.reduceLT, Nat.reduceEqDiff, Nat.reduceAdd, Nat.reduceMul, Nat.reduceSub, Nat.reduceLeDiff]
    exact Fz.bool (by rw [Core.anyC, hq, Core.anyCS_eq]; rfl)
  · simp only [go_sem, ↓reduceIte, reduceCtorEq, Nat.reduceLT, Nat.reduceEqDiff, Nat.reduceAdd, Nat.reduceMul, Nat.reduceSub, Nat.reduceLeDiff]
    exact Fz.bool (by rw [Core.anyC, hq]; rfl)
theorem anyCore (p : Core → Bool) (f : FuncId) (first caps : List D) (hf : ∀ d ∈ first, Cl d) (hc : ∀ d ∈ caps, Cl d) (hp : ∀ x, Sp Try.prog f (first ++ [.ag x.ds] ++ caps) (B (p x))) (c : Core) (ho : c.ok) :
    Sp Try.prog 53 [.ag c.ds, .fn f first caps] (B (c.anyC p)) := by
  match c, ho with
  | .mk k v d ks, ho =>
  simp only [Core.ok] at ho
  exact anyCore_step p f first caps k v d ks ho.2.1 hf hc hp fun x hx => anyCore p f first caps hf hc hp x (Core.okS_mem ho.2.2 x hx)
termination_by c
decreasing_by all_goals (have := List.sizeOf_lt_of_mem hx; simp; omega)
theorem isErased (c : Core) (hs : c.sz ≤ 1048576) (ho : c.ok) : Sp Try.prog 30 [.ag c.ds] (B (c.valid && !c.anyC boxed)) := by
  have hd0 := Core.ds_len c
  have ht0 : List.take 4 c.ds = c.ds := List.take_of_length_le (by omega)
  have ho0 : (c.ds).all oneD = true := by rw [List.all_eq_true]; exact Core.one c
  refine Sp.of_vc [] [.tmp 2] Try.func30 rfl (by kernel_rfl) Try.ntmps30 rfl (by simp) ?_
  simp only [hd0, ht0, ho0, List.take_zero, List.nil_append, go_sem, ↓reduceIte, reduceCtorEq, Nat.reduceLT, Nat.reduceEqDiff, Nat.reduceAdd, Nat.reduceMul, Nat.reduceSub, Nat.reduceLeDiff]
  refine callK_intro _ (validCore c hs ho) (by simp; exact Core.cl _) ?_
  cases hv : c.valid
  · simp only [go_sem, ↓reduceIte, reduceCtorEq, Nat.reduceLT, Nat.reduceEqDiff, Nat.reduceAdd, Nat.reduceMul, Nat.reduceSub, Nat.reduceLeDiff]
    exact Fz.bool rfl
  simp only [hd0, ht0, ho0, List.take_zero, List.nil_append, go_sem, ↓reduceIte, reduceCtorEq, Nat.reduceLT, Nat.reduceEqDiff, Nat.reduceAdd, Nat.reduceMul, Nat.reduceSub, Nat.reduceLeDiff]
  refine callK_intro _ (anyCore boxed _ [] [] (by simp) (by simp) (fun x => by simpa using isBoxed x) c ho) (by simp; exact Core.cl _) ?_
  simp only [go_sem, ↓reduceIte, reduceCtorEq, Nat.reduceLT, Nat.reduceEqDiff, Nat.reduceAdd, Nat.reduceMul, Nat.reduceSub, Nat.reduceLeDiff]
  exact Fz.bool rfl
theorem l06Erased_step (k0 v : Int) (d : List Int) (ks : List Core) (hl : ks.length ≤ maxLen)
    (hel : ∀ x ∈ ks, Sp Try.prog 47 [.cp x.ds] (B (!x.anyC boxed))) :
    Sp Try.prog 47 [.cp (Core.ds (.mk k0 v d ks))] (B (!(Core.mk k0 v d ks).anyC boxed)) := by
  unfold maxLen at hl
  have hda : (Core.dsL ks).length = ks.length := Core.dsL_len ks
  have hab : (Core.mk k0 v d ks).anyC boxed = (decide (k0 = 6 ∨ k0 = 7) || ks.any (Core.anyC boxed)) := by rw [Core.anyC, Core.anyCS_eq, boxed]
  refine Sp.of_vc [] [.tmp 2] Try.func47 rfl (by kernel_rfl) Try.ntmps47 rfl (by simp) ?_
  simp only [Core.ds, hda, go_sem, ↓reduceIte, reduceCtorEq, Nat.reduceLT, Nat.reduceEqDiff, Nat.reduceAdd, Nat.reduceMul, Nat.reduceSub, Nat.reduceLeDiff]
  by_cases c1 : k0 = 6
  · have f1 : (k0 == 6) = true := by simp [c1]
    simp only [f1, go_sem, ↓reduceIte, reduceCtorEq, Nat.reduceLT, Nat.reduceEqDiff, Nat.reduceAdd, Nat.reduceMul, Nat.reduceSub, Nat.reduceLeDiff]
    exact Fz.bool (by rw [hab]; simp [c1])
  have f1 : (k0 == 6) = false := by simp [c1]
  by_cases c2 : k0 = 7
  · have f2 : (k0 == 7) = true := by simp [c2]
    simp only [f1, f2, go_sem, ↓reduceIte, reduceCtorEq, Nat.reduceLT, Nat.reduceEqDiff, Nat.reduceAdd, Nat.reduceMul, Nat.reduceSub, Nat.reduceLeDiff]
    exact Fz.bool (by rw [hab]; simp [c2])
  have f2 : (k0 == 7) = false := by simp [c2]
  simp only [f1, f2, go_sem, ↓reduceIte, reduceCtorEq, Nat.reduceLT, Nat.reduceEqDiff, Nat.reduceAdd, Nat.reduceMul, Nat.reduceSub, Nat.reduceLeDiff]
  refine loop_count 3 ks.length (fun k => Fw.Inv 33 [(0, .cp [I k0, I v, ints d, .sl 4 (Core.dsL ks)])] ((ks.take k).any (Core.anyC boxed) = false)) rfl ⟨rfl, by simp [ints, envOf, setE], by simp⟩ ?_
  rintro k ⟨env, H, n, nt⟩ hk h5 ⟨rfl, hfs, hp⟩
  simp only [List.forall_mem_cons, ints] at h5 hfs
  obtain ⟨e0, -⟩ := hfs
  simp only [h5, e0, hda, go_sem, ↓reduceIte, reduceCtorEq, Nat.reduceLT, Nat.reduceEqDiff, Nat.reduceAdd, Nat.reduceMul, Nat.reduceSub, Nat.reduceLeDiff]
  refine condK_split (fun h => ?_) (fun h => ?_)
  · have hlt : k < ks.length := by simpa using h
    have g0 := Core.dsL_get ks k hlt
    have hx := List.getElem_mem hlt
    simp only [h, h5, e0, g0, go_sem, ↓reduceIte, reduceCtorEq, Nat.reduceLT, Nat.reduceEqDiff, Nat.reduceAdd, Nat.reduceMul, Nat.reduceSub, Nat.reduceLeDiff]
    refine callK_intro _ (hel ks[k] hx) (by simp; exact Core.cl _) ?_
    cases hq : (ks[k]).anyC boxed
    · simp only [h5, go_sem, ↓reduceIte, reduceCtorEq, Nat.reduceLT, Nat.reduceEqDiff, Nat.reduceAdd, Nat.reduceMul, Nat.reduceSub, Nat.reduceLeDiff]
      refine nextC_mk (by simp [setE, wrap_succ k (by omega)]) hlt ⟨rfl, ?_, by rw [any_take_succ hlt, hp, hq]; rfl⟩
      simp only [e0, ints, List.forall_mem_cons, List.not_mem_nil, false_implies, implies_true, setE, ↓reduceIte, Nat.reduceEqDiff, reduceCtorEq, and_true, true_and, and_self, eq_self]
    · simp only [go_sem, ↓reduceIte, reduceCtorEq, Nat.reduceLT, Nat.reduceEqDiff, Nat.reduceAdd, Nat.reduceMul, Nat.reduceSub, Nat.reduceLeDiff]
      refine Fz.bool ?_
      have : ks.any (Core.anyC boxed) = true := List.any_eq_true.2 ⟨_, hx, hq⟩
      rw [hab, this, Bool.or_true]; rfl
  · have hk' : k = ks.length := by simp at h; omega
    rw [hk', List.take_length] at hp
    simp only [h, go_sem, ↓reduceIte, reduceCtorEq, Nat.reduceLT, Nat.reduceEqDiff, Nat.reduceAdd, Nat.reduceMul, Nat.reduceSub, Nat.reduceLeDiff]
    exact Fz.bool (by rw [hab, hp]; simp [c1, c2])
theorem l06Erased (c : Core) (ho : c.ok) : Sp Try.prog 47 [.cp c.ds] (B (!c.anyC boxed)) := by
  match c, ho with
  | .mk k v d ks, ho =>
  simp only [Core.ok] at ho
  exact l06Erased_step k v d ks ho.2.1 fun x hx => l06Erased x (Core.okS_mem ho.2.2 x hx)
termination_by c
decreasing_by all_goals (have := List.sizeOf_lt_of_mem hx; simp; omega)
theorem badCount (n : Int) : Sp Try.prog 55 [I n] (B (!inR n 0 1000000000)) := by
  refine Sp.of_vc [] [.tmp 2] Try.func55 rfl (by kernel_rfl) Try.ntmps55 rfl (by simp) ?_
  simp only [go_sem, ↓reduceIte, reduceCtorEq, Nat.reduceLT, Nat.reduceEqDiff, Nat.reduceAdd, Nat.reduceMul, Nat.reduceSub, Nat.reduceLeDiff]
  by_cases h1 : n < 0
  · simp only [h1, go_sem, ↓reduceIte, reduceCtorEq, Nat.reduceLT, Nat.reduceEqDiff, Nat.reduceAdd, Nat.reduceMul, Nat.reduceSub, Nat.reduceLeDiff]
    exact Fz.bool (by simp [inR]; omega)
  · simp only [h1, go_sem, ↓reduceIte, reduceCtorEq, Nat.reduceLT, Nat.reduceEqDiff, Nat.reduceAdd, Nat.reduceMul, Nat.reduceSub, Nat.reduceLeDiff]
    refine Fz.bool ?_
    unfold inR
    rw [Bool.eq_iff_iff]
    simp
    omega
def countsF (l : List Int) : Bool := decide (l.length = 7) && l.all fun z => inR z 0 1000000000
theorem validCounts (l : List Int) (hl : l.length ≤ maxLen) : Sp Try.prog 31 [ints l] (B (countsF l)) := by
  have hdd : (l.map fun n => [I n]).length = l.length := by simp
  refine Sp.of_vc [] [.tmp 2] Try.func31 rfl (by kernel_rfl) Try.ntmps31 rfl (by simp) ?_
  simp only [hdd, go_sem, ↓reduceIte, reduceCtorEq, Nat.reduceLT, Nat.reduceEqDiff, Nat.reduceAdd, Nat.reduceMul, Nat.reduceSub, Nat.reduceLeDiff]
  by_cases c1 : l.length = 7
  · have f1 : ((l.length : Int) == 7) = true := by simp; omega
    simp only [f1, go_sem, ↓reduceIte, reduceCtorEq, Nat.reduceLT, Nat.reduceEqDiff, Nat.reduceAdd, Nat.reduceMul, Nat.reduceSub, Nat.reduceLeDiff]
    refine callK_intro _ (containsFuncInt l (fun z => !inR z 0 1000000000) _ [] [] hl (by simp) (by simp) (fun z _ => by simpa using badCount z)) (by simp) ?_
    simp only [go_sem, ↓reduceIte, reduceCtorEq, Nat.reduceLT, Nat.reduceEqDiff, Nat.reduceAdd, Nat.reduceMul, Nat.reduceSub, Nat.reduceLeDiff]
    refine Fz.bool ?_
    rw [not_any_not]
    simp [countsF, c1]
  · have f1 : ((l.length : Int) == 7) = false := by simp; omega
    simp only [f1, go_sem, ↓reduceIte, reduceCtorEq, Nat.reduceLT, Nat.reduceEqDiff, Nat.reduceAdd, Nat.reduceMul, Nat.reduceSub, Nat.reduceLeDiff]
    exact Fz.bool (by simp [countsF, c1])
theorem l15Counts (l : List Int) (hl : l.length ≤ maxLen) : Sp Try.prog 48 [ints l] (B (countsF l)) := by
  unfold maxLen at hl
  have hdd : (l.map fun n => [I n]).length = l.length := by simp
  refine Sp.of_vc [] [.tmp 2] Try.func48 rfl (by kernel_rfl) Try.ntmps48 rfl (by simp) ?_
  simp only [hdd, go_sem, ↓reduceIte, reduceCtorEq, Nat.reduceLT, Nat.reduceEqDiff, Nat.reduceAdd, Nat.reduceMul, Nat.reduceSub, Nat.reduceLeDiff]
  refine loop_count 3 l.length (fun k => Fw.Inv 19 [(0, ints l)] ((l.take k).all (fun z => inR z 0 1000000000) = true)) rfl ⟨rfl, by simp [ints, envOf, setE], by simp⟩ ?_
  rintro k ⟨env, H, n, nt⟩ hk h5 ⟨rfl, hfs, hp⟩
  simp only [List.forall_mem_cons, ints] at h5 hfs
  obtain ⟨e0, -⟩ := hfs
  simp only [h5, e0, hdd, go_sem, ↓reduceIte, reduceCtorEq, Nat.reduceLT, Nat.reduceEqDiff, Nat.reduceAdd, Nat.reduceMul, Nat.reduceSub, Nat.reduceLeDiff]
  refine condK_split (fun h => ?_) (fun h => ?_)
  · have hlt : k < l.length := by simpa using h
    have g0 : (l.map fun n => [I n])[k]? = some [I l[k]] := by simp [hlt]
    simp only [h, h5, e0, g0, go_sem, ↓reduceIte, reduceCtorEq, Nat.reduceLT, Nat.reduceEqDiff, Nat.reduceAdd, Nat.reduceMul, Nat.reduceSub, Nat.reduceLeDiff]
    refine callK_intro _ (l00In _ _ _) (by simp) ?_
    cases hq : inR l[k] 0 1000000000
    · simp only [go_sem, ↓reduceIte, reduceCtorEq, Nat.reduceLT, Nat.reduceEqDiff, Nat.reduceAdd, Nat.reduceMul, Nat.reduceSub, Nat.reduceLeDiff]
      exact Fz.bool (by unfold countsF; rw [all_of_take hlt hq, Bool.and_false])
    · simp only [h5, go_sem, ↓reduceIte, reduceCtorEq, Nat.reduceLT, Nat.reduceEqDiff, Nat.reduceAdd, Nat.reduceMul, Nat.reduceSub, Nat.reduceLeDiff]
      refine nextC_mk (by simp [setE, wrap_succ k (by omega)]) hlt ⟨rfl, ?_, by rw [all_take_succ hlt, hp, hq]; rfl⟩
      simp only [e0, ints, List.forall_mem_cons, List.not_mem_nil, false_implies, implies_true, setE, ↓reduceIte, Nat.reduceEqDiff, reduceCtorEq, and_true, true_and, and_self, eq_self]
  · have hk' : k = l.length := by simp at h; omega
    rw [hk', List.take_length] at hp
    simp only [h, e0, hdd, go_sem, ↓reduceIte, reduceCtorEq, Nat.reduceLT, Nat.reduceEqDiff, Nat.reduceAdd, Nat.reduceMul, Nat.reduceSub, Nat.reduceLeDiff]
    refine Fz.bool ?_
    unfold countsF
    rw [hp, int_beq, Bool.and_true, decide_eq_decide]
    omega
end Go.Proofs.Ytjdeehcbhpakhaa
