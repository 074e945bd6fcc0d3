/-
  Contracts over data of the comparisons of caches, of the program and of the reference. No condition.
-/
import Derived.Test.YtjdeehcbhpakhaaL2
namespace Go.Proofs.Ytjdeehcbhpakhaa
open Go.Fw
open Classical
set_option maxRecDepth 100000
set_option linter.unusedSimpArgs false
set_option linter.unusedVariables false
theorem l00Same (a b : List Int) (ha : a.length ≤ maxLen) : Sp Try.prog 42 [ints a, ints b] (B (decide (a = b))) := by
  unfold maxLen at ha
  refine Sp.of_vc [] [.tmp 4] Try.func42 rfl (by kernel_rfl) Try.ntmps42 rfl (by simp) ?_
  simp only [go_sem, ↓reduceIte, reduceCtorEq, Nat.reduceLT, Nat.reduceEqDiff, Nat.reduceAdd, Nat.reduceMul, Nat.reduceSub, Nat.reduceLeDiff]
  refine condK_split (fun h => ?_) (fun h => ?_)
  · simp only [h, go_sem, ↓reduceIte, reduceCtorEq, Nat.reduceLT, Nat.reduceEqDiff, Nat.reduceAdd, Nat.reduceMul, Nat.reduceSub, Nat.reduceLeDiff]
    refine Fz.bool ?_
    simp at h ⊢
    intro e; subst e; simp at h
  · have hl : a.length = b.length := by simp at h; omega
    simp only [h, go_sem, ↓reduceIte, reduceCtorEq, Nat.reduceLT, Nat.reduceEqDiff, Nat.reduceAdd, Nat.reduceMul, Nat.reduceSub, Nat.reduceLeDiff]
    refine loop_count 5 a.length (fun k => Fw.Inv 26 [(0, ints a), (1, ints b)] (a.take k = b.take k)) rfl ⟨rfl, by simp [ints, envOf, setE], by simp⟩ ?_
    rintro k ⟨env, H, n, nt⟩ hk h5 ⟨rfl, hfs, hp⟩
    simp only [List.forall_mem_cons, ints] at h5 hfs
    obtain ⟨e0, e1, -⟩ := hfs
    simp only [h5, e0, e1, go_sem, ↓reduceIte, reduceCtorEq, Nat.reduceLT, Nat.reduceEqDiff, Nat.reduceAdd, Nat.reduceMul, Nat.reduceSub, Nat.reduceLeDiff]
    refine condK_split (fun h => ?_) (fun h => ?_)
    · have hlt : k < a.length := by simpa using h
      have g0 : (a.map fun n => [I n])[k]? = some [I a[k]] := by simp [hlt]
      have g1 : (b.map fun n => [I n])[k]? = some [I (b[k]'(by omega))] := by simp [show k < b.length by omega]
      simp only [h, h5, e0, e1, g0, g1, go_sem, ↓reduceIte, reduceCtorEq, Nat.reduceLT, Nat.reduceEqDiff, Nat.reduceAdd, Nat.reduceMul, Nat.reduceSub, Nat.reduceLeDiff]
      refine drawK_intro mixed (by kernel_rfl) ?_
      refine condK_split (fun hc => ?_) (fun hc => ?_)
      · simp only [hc, go_sem, ↓reduceIte, reduceCtorEq, Nat.reduceLT, Nat.reduceEqDiff, Nat.reduceAdd, Nat.reduceMul, Nat.reduceSub, Nat.reduceLeDiff]
        refine Fz.bool ?_
        simp at hc ⊢
        intro e; subst e; exact hc rfl
      · simp only [hc, h5, go_sem, ↓reduceIte, reduceCtorEq, Nat.reduceLT, Nat.reduceEqDiff, Nat.reduceAdd, Nat.reduceMul, Nat.reduceSub, Nat.reduceLeDiff]
        refine nextC_mk (by simp [setE, wrap_succ k (by omega)]) hlt ⟨rfl, by simp [setE, e0, e1, ints], ?_⟩
        simp at hc
        rw [List.take_succ_eq_append_getElem hlt, List.take_succ_eq_append_getElem (by omega), hp, hc]
    · have hk' : k = a.length := by simp at h; omega
      simp only [h, go_sem, ↓reduceIte, reduceCtorEq, Nat.reduceLT, Nat.reduceEqDiff, Nat.reduceAdd, Nat.reduceMul, Nat.reduceSub, Nat.reduceLeDiff]
      refine Fz.bool ?_
      rw [hk', List.take_length, hl, List.take_length] at hp
      simp [hp]
theorem slicesEqualInt (a b : List Int) (ha : a.length ≤ maxLen) : Sp Try.prog 45 [ints a, ints b] (B (decide (a = b))) := by
  unfold maxLen at ha
  refine Sp.of_vc [] [.tmp 4] Try.func45 rfl (by kernel_rfl) Try.ntmps45 rfl (by simp) ?_
  simp only [go_sem, ↓reduceIte, reduceCtorEq, Nat.reduceLT, Nat.reduceEqDiff, Nat.reduceAdd, Nat.reduceMul, Nat.reduceSub, Nat.reduceLeDiff]
  refine condK_split (fun h => ?_) (fun h => ?_)
  · simp only [h, go_sem, ↓reduceIte, reduceCtorEq, Nat.reduceLT, Nat.reduceEqDiff, Nat.reduceAdd, Nat.reduceMul, Nat.reduceSub, Nat.reduceLeDiff]
    refine Fz.bool ?_
    simp at h ⊢
    intro e; subst e; simp at h
  · have hl : a.length = b.length := by simp at h; omega
    simp only [h, go_sem, ↓reduceIte, reduceCtorEq, Nat.reduceLT, Nat.reduceEqDiff, Nat.reduceAdd, Nat.reduceMul, Nat.reduceSub, Nat.reduceLeDiff]
    refine loop_count 13 a.length (fun k => Fw.Inv 26 [(0, ints a), (1, ints b), (12, I a.length)] (a.take k = b.take k)) rfl ⟨rfl, by simp [ints, envOf, setE], by simp⟩ ?_
    rintro k ⟨env, H, n, nt⟩ hk h5 ⟨rfl, hfs, hp⟩
    simp only [List.forall_mem_cons, ints] at h5 hfs
    obtain ⟨e0, e1, e2, -⟩ := hfs
    simp only [h5, e0, e1, e2, go_sem, ↓reduceIte, reduceCtorEq, Nat.reduceLT, Nat.reduceEqDiff, Nat.reduceAdd, Nat.reduceMul, Nat.reduceSub, Nat.reduceLeDiff]
    refine condK_split (fun h => ?_) (fun h => ?_)
    · have hlt : k < a.length := by simpa using h
      have g0 : (a.map fun n => [I n])[k]? = some [I a[k]] := by simp [hlt]
      have g1 : (b.map fun n => [I n])[k]? = some [I (b[k]'(by omega))] := by simp [show k < b.length by omega]
      simp only [h, h5, e0, e1, e2, g0, g1, go_sem, ↓reduceIte, reduceCtorEq, Nat.reduceLT, Nat.reduceEqDiff, Nat.reduceAdd, Nat.reduceMul, Nat.reduceSub, Nat.reduceLeDiff]
      refine drawK_intro mixed (by kernel_rfl) ?_
      refine condK_split (fun hc => ?_) (fun hc => ?_)
      · simp only [hc, go_sem, ↓reduceIte, reduceCtorEq, Nat.reduceLT, Nat.reduceEqDiff, Nat.reduceAdd, Nat.reduceMul, Nat.reduceSub, Nat.reduceLeDiff]
        refine Fz.bool ?_
        simp at hc ⊢
        intro e; subst e; exact hc rfl
      · simp only [hc, h5, go_sem, ↓reduceIte, reduceCtorEq, Nat.reduceLT, Nat.reduceEqDiff, Nat.reduceAdd, Nat.reduceMul, Nat.reduceSub, Nat.reduceLeDiff]
        refine nextC_mk (by simp [setE, wrap_succ k (by omega)]) hlt ⟨rfl, by simp [setE, e0, e1, e2, ints], ?_⟩
        simp at hc
        rw [List.take_succ_eq_append_getElem hlt, List.take_succ_eq_append_getElem (by omega), hp, hc]
    · have hk' : k = a.length := by simp at h; omega
      simp only [h, go_sem, ↓reduceIte, reduceCtorEq, Nat.reduceLT, Nat.reduceEqDiff, Nat.reduceAdd, Nat.reduceMul, Nat.reduceSub, Nat.reduceLeDiff]
      refine Fz.bool ?_
      rw [hk', List.take_length, hl, List.take_length] at hp
      simp [hp]
theorem EqualFuncCore (a b : List Core) (f : FuncId) (ha : a.length ≤ maxLen) (hel : ∀ x ∈ a, ∀ y, Sp Try.prog f [.ag x.ds, .ag y.ds] (B (decide (x = y)))) : Sp Try.prog 63 [Core.sl a, Core.sl b, .fn f [] []] (B (decide (a = b))) := by
  unfold maxLen at ha
  have hda : (Core.dsL a).length = a.length := Core.dsL_len a
  have hdb : (Core.dsL b).length = b.length := Core.dsL_len b
  refine Sp.of_vc [] [.tmp 6] Try.func63 rfl (by kernel_rfl) Try.ntmps63 rfl (by simp) ?_
  simp only [go_sem, ↓reduceIte, reduceCtorEq, Nat.reduceLT, Nat.reduceEqDiff, Nat.reduceAdd, Nat.reduceMul, Nat.reduceSub, Nat.reduceLeDiff, hda, hdb]
  refine condK_split (fun h => ?_) (fun h => ?_)
  · simp only [h, go_sem, ↓reduceIte, reduceCtorEq, Nat.reduceLT, Nat.reduceEqDiff, Nat.reduceAdd, Nat.reduceMul, Nat.reduceSub, Nat.reduceLeDiff]
    refine Fz.bool ?_
    simp at h ⊢
    intro e; subst e; simp at h
  · have hl : a.length = b.length := by simp at h; omega
    simp only [h, go_sem, ↓reduceIte, reduceCtorEq, Nat.reduceLT, Nat.reduceEqDiff, Nat.reduceAdd, Nat.reduceMul, Nat.reduceSub, Nat.reduceLeDiff, hda]
    refine loop_count 17 a.length (fun k => Fw.Inv 32 [(0, Core.sl a), (1, Core.sl b), (2, .fn f [] []), (15, Core.sl a), (16, I a.length)] (a.take k = b.take k)) rfl ⟨rfl, by simp [Core.sl, envOf, setE], by simp⟩ ?_
    rintro k ⟨env, H, n, nt⟩ hk h5 ⟨rfl, hfs, hp⟩
    simp only [List.forall_mem_cons, Core.sl] at h5 hfs
    obtain ⟨e0, e1, e2, e3, e4, -⟩ := hfs
    simp only [h5, e4, hda, go_sem, ↓reduceIte, reduceCtorEq, Nat.reduceLT, Nat.reduceEqDiff, Nat.reduceAdd, Nat.reduceMul, Nat.reduceSub, Nat.reduceLeDiff]
    refine condK_split (fun h => ?_) (fun h => ?_)
    · have hlt : k < a.length := by simpa using h
      have hlb : k < b.length := by omega
      have g0 := Core.dsL_get a k hlt
      have g1 := Core.dsL_get b k hlb
      have hd0 := Core.ds_len a[k]
      have hd1 := Core.ds_len b[k]
      have ht0 : List.take 4 a[k].ds = a[k].ds := List.take_of_length_le (by omega)
      have ht1 : List.take 4 b[k].ds = b[k].ds := List.take_of_length_le (by omega)
      have ho0 : (a[k].ds).all oneD = true := by rw [List.all_eq_true]; exact Core.one a[k]
      have ho1 : (b[k].ds).all oneD = true := by rw [List.all_eq_true]; exact Core.one b[k]
      simp only [h, h5, e0, e1, e2, e3, e4, g0, g1, hd0, hd1, ht0, ht1, ho0, ho1, List.append_nil, List.drop_of_length_le, List.take_zero, List.nil_append, hd0, go_sem, ↓reduceIte, reduceCtorEq, Nat.reduceLT, Nat.reduceEqDiff, Nat.reduceAdd, Nat.reduceMul, Nat.reduceSub, Nat.reduceLeDiff]
      refine callK_intro _ (hel a[k] (List.getElem_mem hlt) b[k]) (by simp; exact ⟨Core.cl _, Core.cl _⟩) ?_
      by_cases hc : a[k] = b[k]
      · have ec : decide (a[k] = b[k]) = true := by simp [hc]
        simp only [ec, h5, go_sem, ↓reduceIte, reduceCtorEq, Nat.reduceLT, Nat.reduceEqDiff, Nat.reduceAdd, Nat.reduceMul, Nat.reduceSub, Nat.reduceLeDiff]
        refine nextC_mk (by simp [setE, wrap_succ k (by omega)]) hlt ⟨rfl, by simp [setE, e0, e1, e2, e3, e4, Core.sl], ?_⟩
        rw [List.take_succ_eq_append_getElem hlt, List.take_succ_eq_append_getElem hlb, hp, hc]
      · have ec : decide (a[k] = b[k]) = false := by simp [hc]
        simp only [ec, go_sem, ↓reduceIte, reduceCtorEq, Nat.reduceLT, Nat.reduceEqDiff, Nat.reduceAdd, Nat.reduceMul, Nat.reduceSub, Nat.reduceLeDiff]
        refine Fz.bool ?_
        simp
        intro e; subst e; exact hc rfl
    · have hk' : k = a.length := by simp at h; omega
      simp only [h, go_sem, ↓reduceIte, reduceCtorEq, Nat.reduceLT, Nat.reduceEqDiff, Nat.reduceAdd, Nat.reduceMul, Nat.reduceSub, Nat.reduceLeDiff]
      refine Fz.bool ?_
      rw [hk', List.take_length, hl, List.take_length] at hp
      simp [hp]
theorem EqualFuncEntry (a b : List CacheEntry) (f : FuncId) (ha : a.length ≤ maxLen) (hel : ∀ x ∈ a, ∀ y, Sp Try.prog f [.ag x.ds, .ag y.ds] (B (decide (x = y)))) : Sp Try.prog 25 [CacheEntry.sl a, CacheEntry.sl b, .fn f [] []] (B (decide (a = b))) := by
  unfold maxLen at ha
  have hda : (CacheEntry.dsL a).length = a.length := CacheEntry.dsL_len a
  have hdb : (CacheEntry.dsL b).length = b.length := CacheEntry.dsL_len b
  refine Sp.of_vc [] [.tmp 6] Try.func25 rfl (by kernel_rfl) Try.ntmps25 rfl (by simp) ?_
  simp only [go_sem, ↓reduceIte, reduceCtorEq, Nat.reduceLT, Nat.reduceEqDiff, Nat.reduceAdd, Nat.reduceMul, Nat.reduceSub, Nat.reduceLeDiff, hda, hdb]
  refine condK_split (fun h => ?_) (fun h => ?_)
  · simp only [h, go_sem, ↓reduceIte, reduceCtorEq, Nat.reduceLT, Nat.reduceEqDiff, Nat.reduceAdd, Nat.reduceMul, Nat.reduceSub, Nat.reduceLeDiff]
    refine Fz.bool ?_
    simp at h ⊢
    intro e; subst e; simp at h
  · have hl : a.length = b.length := by simp at h; omega
    simp only [h, go_sem, ↓reduceIte, reduceCtorEq, Nat.reduceLT, Nat.reduceEqDiff, Nat.reduceAdd, Nat.reduceMul, Nat.reduceSub, Nat.reduceLeDiff, hda]
    refine loop_count 17 a.length (fun k => Fw.Inv 32 [(0, CacheEntry.sl a), (1, CacheEntry.sl b), (2, .fn f [] []), (15, CacheEntry.sl a), (16, I a.length)] (a.take k = b.take k)) rfl ⟨rfl, by simp [CacheEntry.sl, envOf, setE], by simp⟩ ?_
    rintro k ⟨env, H, n, nt⟩ hk h5 ⟨rfl, hfs, hp⟩
    simp only [List.forall_mem_cons, CacheEntry.sl] at h5 hfs
    obtain ⟨e0, e1, e2, e3, e4, -⟩ := hfs
    simp only [h5, e4, hda, go_sem, ↓reduceIte, reduceCtorEq, Nat.reduceLT, Nat.reduceEqDiff, Nat.reduceAdd, Nat.reduceMul, Nat.reduceSub, Nat.reduceLeDiff]
    refine condK_split (fun h => ?_) (fun h => ?_)
    · have hlt : k < a.length := by simpa using h
      have hlb : k < b.length := by omega
      have g0 := CacheEntry.dsL_get a k hlt
      have g1 := CacheEntry.dsL_get b k hlb
      have hd0 := CacheEntry.ds_len a[k]
      have hd1 := CacheEntry.ds_len b[k]
      have ht0 : List.take 7 a[k].ds = a[k].ds := List.take_of_length_le (by omega)
      have ht1 : List.take 7 b[k].ds = b[k].ds := List.take_of_length_le (by omega)
      have ho0 : (a[k].ds).all oneD = true := by rw [List.all_eq_true]; exact CacheEntry.one a[k]
      have ho1 : (b[k].ds).all oneD = true := by rw [List.all_eq_true]; exact CacheEntry.one b[k]
      simp only [h, h5, e0, e1, e2, e3, e4, g0, g1, hd0, hd1, ht0, ht1, ho0, ho1, List.append_nil, List.drop_of_length_le, List.take_zero, List.nil_append, hd0, go_sem, ↓reduceIte, reduceCtorEq, Nat.reduceLT, Nat.reduceEqDiff, Nat.reduceAdd, Nat.reduceMul, Nat.reduceSub, Nat.reduceLeDiff]
      refine callK_intro _ (hel a[k] (List.getElem_mem hlt) b[k]) (by simp; exact ⟨CacheEntry.cl _, CacheEntry.cl _⟩) ?_
      by_cases hc : a[k] = b[k]
      · have ec : decide (a[k] = b[k]) = true := by simp [hc]
        simp only [ec, h5, go_sem, ↓reduceIte, reduceCtorEq, Nat.reduceLT, Nat.reduceEqDiff, Nat.reduceAdd, Nat.reduceMul, Nat.reduceSub, Nat.reduceLeDiff]
        refine nextC_mk (by simp [setE, wrap_succ k (by omega)]) hlt ⟨rfl, by simp [setE, e0, e1, e2, e3, e4, CacheEntry.sl], ?_⟩
        rw [List.take_succ_eq_append_getElem hlt, List.take_succ_eq_append_getElem hlb, hp, hc]
      · have ec : decide (a[k] = b[k]) = false := by simp [hc]
        simp only [ec, go_sem, ↓reduceIte, reduceCtorEq, Nat.reduceLT, Nat.reduceEqDiff, Nat.reduceAdd, Nat.reduceMul, Nat.reduceSub, Nat.reduceLeDiff]
        refine Fz.bool ?_
        simp
        intro e; subst e; exact hc rfl
    · have hk' : k = a.length := by simp at h; omega
      simp only [h, go_sem, ↓reduceIte, reduceCtorEq, Nat.reduceLT, Nat.reduceEqDiff, Nat.reduceAdd, Nat.reduceMul, Nat.reduceSub, Nat.reduceLeDiff]
      refine Fz.bool ?_
      rw [hk', List.take_length, hl, List.take_length] at hp
      simp [hp]

theorem SameCore_step (a0 a1 : Int) (a2 : List Int) (a3 : List Core) (b0 b1 : Int) (b2 : List Int) (b3 : List Core) (o2 : a2.length ≤ maxLen) (o3 : a3.length ≤ maxLen)
    (hel : ∀ x ∈ a3, ∀ y, Sp Try.prog 44 [.ag x.ds, .ag y.ds] (B (decide (x = y)))) :
    Sp Try.prog 44 [.ag (Core.ds (.mk a0 a1 a2 a3)), .ag (Core.ds (.mk b0 b1 b2 b3))] (B (decide (Core.mk a0 a1 a2 a3 = Core.mk b0 b1 b2 b3))) := by
  refine Sp.of_vc [] [.tmp 4] Try.func44 rfl (by kernel_rfl) Try.ntmps44 rfl (by simp) ?_
  simp only [Core.ds, go_sem, ↓reduceIte, reduceCtorEq, Nat.reduceLT, Nat.reduceEqDiff, Nat.reduceAdd, Nat.reduceMul, Nat.reduceSub, Nat.reduceLeDiff]
  by_cases c0 : a0 = b0
  case neg =>
    have f0 : (a0 == b0) = false := by simp [c0]
    simp only [f0, go_sem, ↓reduceIte, reduceCtorEq, Nat.reduceLT, Nat.reduceEqDiff, Nat.reduceAdd, Nat.reduceMul, Nat.reduceSub, Nat.reduceLeDiff]
    exact Fz.bool (by simp [c0])
  have f0 : (a0 == b0) = true := by simp [c0]
  simp only [f0, go_sem, ↓reduceIte, reduceCtorEq, Nat.reduceLT, Nat.reduceEqDiff, Nat.reduceAdd, Nat.reduceMul, Nat.reduceSub, Nat.reduceLeDiff]
  by_cases c1 : a1 = b1
  case neg =>
    have f1 : (a1 == b1) = false := by simp [c1]
    simp only [f1, go_sem, ↓reduceIte, reduceCtorEq, Nat.reduceLT, Nat.reduceEqDiff, Nat.reduceAdd, Nat.reduceMul, Nat.reduceSub, Nat.reduceLeDiff]
    exact Fz.bool (by simp [c1])
  have f1 : (a1 == b1) = true := by simp [c1]
  simp only [f1, go_sem, ↓reduceIte, reduceCtorEq, Nat.reduceLT, Nat.reduceEqDiff, Nat.reduceAdd, Nat.reduceMul, Nat.reduceSub, Nat.reduceLeDiff]
  refine callK_intro _ (slicesEqualInt a2 b2 o2) (by simp only [List.nil_append, List.append_nil, List.forall_mem_cons]; exact ⟨cl_ints a2, cl_ints b2, by simp⟩) ?_
  by_cases c2 : a2 = b2
  case neg =>
    have f2 : decide (a2 = b2) = false := by simp [c2]
    simp only [f2, go_sem, ↓reduceIte, reduceCtorEq, Nat.reduceLT, Nat.reduceEqDiff, Nat.reduceAdd, Nat.reduceMul, Nat.reduceSub, Nat.reduceLeDiff]
    exact Fz.bool (by simp [c2])
  have f2 : decide (a2 = b2) = true := by simp [c2]
  simp only [f2, go_sem, ↓reduceIte, reduceCtorEq, Nat.reduceLT, Nat.reduceEqDiff, Nat.reduceAdd, Nat.reduceMul, Nat.reduceSub, Nat.reduceLeDiff]
  refine callK_intro _ (EqualFuncCore a3 b3 _ o3 hel) (by simp only [List.nil_append, List.append_nil, List.forall_mem_cons]; exact ⟨Core.cl_sl a3, Core.cl_sl b3, by simp⟩) ?_
  simp only [go_sem, ↓reduceIte, reduceCtorEq, Nat.reduceLT, Nat.reduceEqDiff, Nat.reduceAdd, Nat.reduceMul, Nat.reduceSub, Nat.reduceLeDiff]
  refine Fz.bool ?_
  simp [c0, c1, c2]
theorem SameCore (a b : Core) (ha : a.ok) : Sp Try.prog 44 [.ag a.ds, .ag b.ds] (B (decide (a = b))) := by
  match a, b, ha with
  | .mk a0 a1 a2 a3, .mk b0 b1 b2 b3, ha =>
  simp only [Core.ok] at ha
  exact SameCore_step a0 a1 a2 a3 b0 b1 b2 b3 ha.1 ha.2.1 fun x hx y => SameCore x y (Core.okS_mem ha.2.2 x hx)
termination_by a
decreasing_by all_goals (have := List.sizeOf_lt_of_mem hx; simp; omega)

theorem l06Same_step (a0 a1 : Int) (a2 : List Int) (a3 : List Core) (b0 b1 : Int) (b2 : List Int) (b3 : List Core) (o2 : a2.length ≤ maxLen) (o3 : a3.length ≤ maxLen)
    (hel : ∀ x ∈ a3, ∀ y, Sp Try.prog 41 [.cp x.ds, .cp y.ds] (B (decide (x = y)))) :
    Sp Try.prog 41 [.cp (Core.ds (.mk a0 a1 a2 a3)), .cp (Core.ds (.mk b0 b1 b2 b3))] (B (decide (Core.mk a0 a1 a2 a3 = Core.mk b0 b1 b2 b3))) := by
  unfold maxLen at o3
  have hda : (Core.dsL a3).length = a3.length := Core.dsL_len a3
  have hdb : (Core.dsL b3).length = b3.length := Core.dsL_len b3
  refine Sp.of_vc [] [.tmp 4] Try.func41 rfl (by kernel_rfl) Try.ntmps41 rfl (by simp) ?_
  simp only [Core.ds, go_sem, ↓reduceIte, reduceCtorEq, Nat.reduceLT, Nat.reduceEqDiff, Nat.reduceAdd, Nat.reduceMul, Nat.reduceSub, Nat.reduceLeDiff]
  refine drawK_intro mixed (by kernel_rfl) ?_
  by_cases c0 : a0 = b0
  case neg =>
    have f0 : (a0 != b0) = true := by simp [c0]
    simp only [f0, go_sem, ↓reduceIte, reduceCtorEq, Nat.reduceLT, Nat.reduceEqDiff, Nat.reduceAdd, Nat.reduceMul, Nat.reduceSub, Nat.reduceLeDiff]
    exact Fz.bool (by simp [c0])
  have f0 : (a0 != b0) = false := by simp [c0]
  simp only [f0, go_sem, ↓reduceIte, reduceCtorEq, Nat.reduceLT, Nat.reduceEqDiff, Nat.reduceAdd, Nat.reduceMul, Nat.reduceSub, Nat.reduceLeDiff]
  by_cases c1 : a1 = b1
  case neg =>
    have f1 : (a1 != b1) = true := by simp [c1]
    simp only [f1, go_sem, ↓reduceIte, reduceCtorEq, Nat.reduceLT, Nat.reduceEqDiff, Nat.reduceAdd, Nat.reduceMul, Nat.reduceSub, Nat.reduceLeDiff]
    exact Fz.bool (by simp [c1])
  have f1 : (a1 != b1) = false := by simp [c1]
  simp only [f1, go_sem, ↓reduceIte, reduceCtorEq, Nat.reduceLT, Nat.reduceEqDiff, Nat.reduceAdd, Nat.reduceMul, Nat.reduceSub, Nat.reduceLeDiff]
  refine callQ_intro _ (l00Same a2 b2 o2) (by simp only [List.nil_append, List.append_nil, List.forall_mem_cons]; exact ⟨cl_ints a2, cl_ints b2, by simp⟩) rfl ?_
  by_cases c2 : a2 = b2
  case neg =>
    have f2 : decide (a2 = b2) = false := by simp [c2]
    simp only [f2, go_sem, ↓reduceIte, reduceCtorEq, Nat.reduceLT, Nat.reduceEqDiff, Nat.reduceAdd, Nat.reduceMul, Nat.reduceSub, Nat.reduceLeDiff]
    exact Fz.bool (by simp [c2])
  have f2 : decide (a2 = b2) = true := by simp [c2]
  simp only [f2, hda, hdb, go_sem, ↓reduceIte, reduceCtorEq, Nat.reduceLT, Nat.reduceEqDiff, Nat.reduceAdd, Nat.reduceMul, Nat.reduceSub, Nat.reduceLeDiff]
  refine condK_split (fun h => ?_) (fun h => ?_)
  · simp only [h, go_sem, ↓reduceIte, reduceCtorEq, Nat.reduceLT, Nat.reduceEqDiff, Nat.reduceAdd, Nat.reduceMul, Nat.reduceSub, Nat.reduceLeDiff]
    refine Fz.bool ?_
    simp at h ⊢
    intro _ _ _ e; subst e; simp at h
  · have hl : a3.length = b3.length := by simp at h; omega
    simp only [h, go_sem, ↓reduceIte, reduceCtorEq, Nat.reduceLT, Nat.reduceEqDiff, Nat.reduceAdd, Nat.reduceMul, Nat.reduceSub, Nat.reduceLeDiff]
    refine loop_count 5 a3.length (fun k => Fw.Inv 74 [(0, .cp (Core.ds (.mk a0 a1 a2 a3))), (1, .cp (Core.ds (.mk b0 b1 b2 b3)))] (a3.take k = b3.take k)) rfl ⟨rfl, by simp [Core.ds, ints, envOf, setE], by simp⟩ ?_
    rintro k ⟨env, H, n, nt⟩ hk h5 ⟨rfl, hfs, hp⟩
    simp only [List.forall_mem_cons, Core.ds] at h5 hfs
    obtain ⟨e0, e1, -⟩ := hfs
    simp only [h5, e0, e1, hda, go_sem, ↓reduceIte, reduceCtorEq, Nat.reduceLT, Nat.reduceEqDiff, Nat.reduceAdd, Nat.reduceMul, Nat.reduceSub, Nat.reduceLeDiff]
    refine condK_split (fun h => ?_) (fun h => ?_)
    · have hlt : k < a3.length := by simpa using h
      have hlb : k < b3.length := by omega
      have g0 := Core.dsL_get a3 k hlt
      have g1 := Core.dsL_get b3 k hlb
      simp only [h, h5, e0, e1, g0, g1, go_sem, ↓reduceIte, reduceCtorEq, Nat.reduceLT, Nat.reduceEqDiff, Nat.reduceAdd, Nat.reduceMul, Nat.reduceSub, Nat.reduceLeDiff]
      refine drawK_intro mixed (by kernel_rfl) ?_
      have hx := List.getElem_mem hlt
      refine callQ_intro _ (hel a3[k] hx b3[k]) (by simp; exact ⟨Core.cl _, Core.cl _⟩) rfl ?_
      by_cases hc : a3[k] = b3[k]
      · have ec : decide (a3[k] = b3[k]) = true := by simp [hc]
        simp only [ec, h5, go_sem, ↓reduceIte, reduceCtorEq, Nat.reduceLT, Nat.reduceEqDiff, Nat.reduceAdd, Nat.reduceMul, Nat.reduceSub, Nat.reduceLeDiff]
        refine nextC_mk (by simp [setE, wrap_succ k (by omega)]) hlt ⟨rfl, by simp [setE, e0, e1, Core.ds, ints], ?_⟩
        rw [List.take_succ_eq_append_getElem hlt, List.take_succ_eq_append_getElem hlb, hp, hc]
      · have ec : decide (a3[k] = b3[k]) = false := by simp [hc]
        simp only [ec, go_sem, ↓reduceIte, reduceCtorEq, Nat.reduceLT, Nat.reduceEqDiff, Nat.reduceAdd, Nat.reduceMul, Nat.reduceSub, Nat.reduceLeDiff]
        refine Fz.bool ?_
        simp
        intro _ _ _ e; subst e; exact hc rfl
    · have hk' : k = a3.length := by simp at h; omega
      simp only [h, go_sem, ↓reduceIte, reduceCtorEq, Nat.reduceLT, Nat.reduceEqDiff, Nat.reduceAdd, Nat.reduceMul, Nat.reduceSub, Nat.reduceLeDiff]
      refine Fz.bool ?_
      rw [hk', List.take_length, hl, List.take_length] at hp
      simp [hp, c0, c1, c2]
theorem l06Same (a b : Core) (ha : a.ok) : Sp Try.prog 41 [.cp a.ds, .cp b.ds] (B (decide (a = b))) := by
  match a, b, ha with
  | .mk a0 a1 a2 a3, .mk b0 b1 b2 b3, ha =>
  simp only [Core.ok] at ha
  exact l06Same_step a0 a1 a2 a3 b0 b1 b2 b3 ha.1 ha.2.1 fun x hx y => l06Same x y (Core.okS_mem ha.2.2 x hx)
termination_by a
decreasing_by all_goals (have := List.sizeOf_lt_of_mem hx; simp; omega)
end Go.Proofs.Ytjdeehcbhpakhaa
