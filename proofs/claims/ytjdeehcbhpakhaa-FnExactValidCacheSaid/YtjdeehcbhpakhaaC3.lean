/-
  Contracts over data of library searches and of small functions. No condition.
-/
import Derived.Test.YtjdeehcbhpakhaaC2
import Derived.Test.YtjdeehcbhpakhaaFw6
namespace Go.Proofs.Ytjdeehcbhpakhaa
open Go.Fw
open Classical
set_option maxRecDepth 100000
set_option linter.unusedSimpArgs false
set_option linter.unusedVariables false
theorem indexFuncInt (l : List Int) (p : Int → Bool) (f : FuncId) (first caps : List D) (hl : l.length ≤ maxLen) (hf : ∀ d ∈ first, Cl d) (hc : ∀ d ∈ caps, Cl d)
    (hel : ∀ x ∈ l, Sp Try.prog f (first ++ [I x] ++ caps) (B (p x))) : Sp Try.prog 66 [ints l, .fn f first caps] (I (idxF p l)) := by
  unfold maxLen at hl
  have hda : (l.map fun n => [I n]).length = l.length := by simp
  refine Sp.of_vc [] [.tmp 4] Try.func66 rfl (by kernel_rfl) Try.ntmps66 rfl (by simp) ?_
  simp only [go_sem, ↓reduceIte, reduceCtorEq, Nat.reduceLT, Nat.reduceEqDiff, Nat.reduceAdd, Nat.reduceMul, Nat.reduceSub, Nat.reduceLeDiff, hda]
  refine loop_count 8 l.length (fun k => Fw.Inv 19 [(0, ints l), (1, .fn f first caps), (7, I l.length)] ((l.take k).any p = false)) rfl ⟨rfl, by simp [ints, envOf, setE], by simp⟩ ?_
  rintro k ⟨env, H, n, nt⟩ hk h5 ⟨rfl, hfs, hp⟩
  simp only [List.forall_mem_cons, ints] at h5 hfs
  obtain ⟨e0, e1, e2, -⟩ := hfs
  simp only [h5, e2, hda, go_sem, ↓reduceIte, reduceCtorEq, Nat.reduceLT, Nat.reduceEqDiff, Nat.reduceAdd, Nat.reduceMul, Nat.reduceSub, Nat.reduceLeDiff]
  refine condK_split (fun h => ?_) (fun h => ?_)
  · have hlt : k < l.length := by simpa using h
    have g0 : (l.map fun n => [I n])[k]? = some [I l[k]] := by simp [hlt]
    simp only [h, h5, e0, e1, e2, g0, go_sem, ↓reduceIte, reduceCtorEq, Nat.reduceLT, Nat.reduceEqDiff, Nat.reduceAdd, Nat.reduceMul, Nat.reduceSub, Nat.reduceLeDiff]
    refine callK_intro _ (hel l[k] (List.getElem_mem hlt)) (by simp only [List.forall_mem_append, List.forall_mem_cons]; exact ⟨⟨hf, cl_sc _, by simp⟩, hc⟩) ?_
    cases hc : p l[k]
    · simp only [hc, h5, go_sem, ↓reduceIte, reduceCtorEq, Nat.reduceLT, Nat.reduceEqDiff, Nat.reduceAdd, Nat.reduceMul, Nat.reduceSub, Nat.reduceLeDiff]
      refine nextC_mk (by simp [setE, wrap_succ k (by omega)]) hlt ⟨rfl, by simp [setE, e0, e1, e2, ints], ?_⟩
      rw [any_take_succ hlt, hp, hc]; rfl
    · simp only [hc, go_sem, ↓reduceIte, reduceCtorEq, Nat.reduceLT, Nat.reduceEqDiff, Nat.reduceAdd, Nat.reduceMul, Nat.reduceSub, Nat.reduceLeDiff]
      exact Fz.int (idxF_hit hlt hp hc).symm
  · have hk' : k = l.length := by simp at h; omega
    simp only [h, go_sem, ↓reduceIte, reduceCtorEq, Nat.reduceLT, Nat.reduceEqDiff, Nat.reduceAdd, Nat.reduceMul, Nat.reduceSub, Nat.reduceLeDiff]
    refine Fz.int ?_
    rw [hk', List.take_length] at hp
    exact (idxF_none hp).symm
theorem containsFuncInt (l : List Int) (p : Int → Bool) (f : FuncId) (first caps : List D) (hl : l.length ≤ maxLen) (hf : ∀ d ∈ first, Cl d) (hc : ∀ d ∈ caps, Cl d)
    (hel : ∀ x ∈ l, Sp Try.prog f (first ++ [I x] ++ caps) (B (p x))) : Sp Try.prog 49 [ints l, .fn f first caps] (B (l.any p)) := by
  refine Sp.of_vc [] [.tmp 4] Try.func49 rfl (by kernel_rfl) Try.ntmps49 rfl (by simp) ?_
  simp only [go_sem, ↓reduceIte, reduceCtorEq, Nat.reduceLT, Nat.reduceEqDiff, Nat.reduceAdd, Nat.reduceMul, Nat.reduceSub, Nat.reduceLeDiff]
  refine callK_intro _ (indexFuncInt l p f first caps hl hf hc hel) (by simp only [List.nil_append, List.append_nil, List.forall_mem_cons]; exact ⟨cl_ints l, Cl.fn' hf hc, by simp⟩) ?_
  simp only [go_sem, ↓reduceIte, reduceCtorEq, Nat.reduceLT, Nat.reduceEqDiff, Nat.reduceAdd, Nat.reduceMul, Nat.reduceSub, Nat.reduceLeDiff]
  exact Fz.bool (idxF_any l)
theorem indexFuncCore (l : List Core) (p : Core → Bool) (f : FuncId) (first caps : List D) (hl : l.length ≤ maxLen) (hf : ∀ d ∈ first, Cl d) (hc : ∀ d ∈ caps, Cl d)
    (hel : ∀ x ∈ l, Sp Try.prog f (first ++ [.ag x.ds] ++ caps) (B (p x))) : Sp Try.prog 80 [Core.sl l, .fn f first caps] (I (idxF p l)) := by
  unfold maxLen at hl
  have hda : (Core.dsL l).length = l.length := Core.dsL_len l
  refine Sp.of_vc [] [.tmp 4] Try.func80 rfl (by kernel_rfl) Try.ntmps80 rfl (by simp) ?_
  simp only [go_sem, ↓reduceIte, reduceCtorEq, Nat.reduceLT, Nat.reduceEqDiff, Nat.reduceAdd, Nat.reduceMul, Nat.reduceSub, Nat.reduceLeDiff, hda]
  refine loop_count 8 l.length (fun k => Fw.Inv 19 [(0, Core.sl l), (1, .fn f first caps), (7, I l.length)] ((l.take k).any p = false)) rfl ⟨rfl, by simp [Core.sl, envOf, setE], by simp⟩ ?_
  rintro k ⟨env, H, n, nt⟩ hk h5 ⟨rfl, hfs, hp⟩
  simp only [List.forall_mem_cons, Core.sl] at h5 hfs
  obtain ⟨e0, e1, e2, -⟩ := hfs
  simp only [h5, e2, hda, go_sem, ↓reduceIte, reduceCtorEq, Nat.reduceLT, Nat.reduceEqDiff, Nat.reduceAdd, Nat.reduceMul, Nat.reduceSub, Nat.reduceLeDiff]
  refine condK_split (fun h => ?_) (fun h => ?_)
  · have hlt : k < l.length := by simpa using h
    have g0 := Core.dsL_get l k hlt
    have hd0 := Core.ds_len l[k]
    have ht0 : List.take 4 l[k].ds = l[k].ds := List.take_of_length_le (by omega)
    have ho0 : (l[k].ds).all oneD = true := by rw [List.all_eq_true]; exact Core.one l[k]
    simp only [h, h5, e0, e1, e2, g0, hd0, ht0, ho0, List.take_zero, List.nil_append, go_sem, ↓reduceIte, reduceCtorEq, Nat.reduceLT, Nat.reduceEqDiff, Nat.reduceAdd, Nat.reduceMul, Nat.reduceSub, Nat.reduceLeDiff]
    refine callK_intro _ (hel l[k] (List.getElem_mem hlt)) (by simp only [List.forall_mem_append, List.forall_mem_cons]; exact ⟨⟨hf, Cl.ag' (Core.cl _), by simp⟩, hc⟩) ?_
    cases hc : p l[k]
    · simp only [hc, h5, go_sem, ↓reduceIte, reduceCtorEq, Nat.reduceLT, Nat.reduceEqDiff, Nat.reduceAdd, Nat.reduceMul, Nat.reduceSub, Nat.reduceLeDiff]
      refine nextC_mk (by simp [setE, wrap_succ k (by omega)]) hlt ⟨rfl, by simp [setE, e0, e1, e2, Core.sl], ?_⟩
      rw [any_take_succ hlt, hp, hc]; rfl
    · simp only [hc, go_sem, ↓reduceIte, reduceCtorEq, Nat.reduceLT, Nat.reduceEqDiff, Nat.reduceAdd, Nat.reduceMul, Nat.reduceSub, Nat.reduceLeDiff]
      exact Fz.int (idxF_hit hlt hp hc).symm
  · have hk' : k = l.length := by simp at h; omega
    simp only [h, go_sem, ↓reduceIte, reduceCtorEq, Nat.reduceLT, Nat.reduceEqDiff, Nat.reduceAdd, Nat.reduceMul, Nat.reduceSub, Nat.reduceLeDiff]
    refine Fz.int ?_
    rw [hk', List.take_length] at hp
    exact (idxF_none hp).symm
theorem containsFuncCore (l : List Core) (p : Core → Bool) (f : FuncId) (first caps : List D) (hl : l.length ≤ maxLen) (hf : ∀ d ∈ first, Cl d) (hc : ∀ d ∈ caps, Cl d)
    (hel : ∀ x ∈ l, Sp Try.prog f (first ++ [.ag x.ds] ++ caps) (B (p x))) : Sp Try.prog 70 [Core.sl l, .fn f first caps] (B (l.any p)) := by
  refine Sp.of_vc [] [.tmp 4] Try.func70 rfl (by kernel_rfl) Try.ntmps70 rfl (by simp) ?_
  simp only [go_sem, ↓reduceIte, reduceCtorEq, Nat.reduceLT, Nat.reduceEqDiff, Nat.reduceAdd, Nat.reduceMul, Nat.reduceSub, Nat.reduceLeDiff]
  refine callK_intro _ (indexFuncCore l p f first caps hl hf hc hel) (by simp only [List.nil_append, List.append_nil, List.forall_mem_cons]; exact ⟨Core.cl_sl l, Cl.fn' hf hc, by simp⟩) ?_
  simp only [go_sem, ↓reduceIte, reduceCtorEq, Nat.reduceLT, Nat.reduceEqDiff, Nat.reduceAdd, Nat.reduceMul, Nat.reduceSub, Nat.reduceLeDiff]
  exact Fz.bool (idxF_any l)
theorem indexFuncEntry (l : List CacheEntry) (p : CacheEntry → Bool) (f : FuncId) (first caps : List D) (hl : l.length ≤ maxLen) (hf : ∀ d ∈ first, Cl d) (hc : ∀ d ∈ caps, Cl d)
    (hel : ∀ x ∈ l, Sp Try.prog f (first ++ [.ag x.ds] ++ caps) (B (p x))) : Sp Try.prog 56 [CacheEntry.sl l, .fn f first caps] (I (idxF p l)) := by
  unfold maxLen at hl
  have hda : (CacheEntry.dsL l).length = l.length := CacheEntry.dsL_len l
  refine Sp.of_vc [] [.tmp 4] Try.func56 rfl (by kernel_rfl) Try.ntmps56 rfl (by simp) ?_
  simp only [go_sem, ↓reduceIte, reduceCtorEq, Nat.reduceLT, Nat.reduceEqDiff, Nat.reduceAdd, Nat.reduceMul, Nat.reduceSub, Nat.reduceLeDiff, hda]
  refine loop_count 8 l.length (fun k => Fw.Inv 19 [(0, CacheEntry.sl l), (1, .fn f first caps), (7, I l.length)] ((l.take k).any p = false)) rfl ⟨rfl, by simp [CacheEntry.sl, envOf, setE], by simp⟩ ?_
  rintro k ⟨env, H, n, nt⟩ hk h5 ⟨rfl, hfs, hp⟩
  simp only [List.forall_mem_cons, CacheEntry.sl] at h5 hfs
  obtain ⟨e0, e1, e2, -⟩ := hfs
  simp only [h5, e2, hda, go_sem, ↓reduceIte, reduceCtorEq, Nat.reduceLT, Nat.reduceEqDiff, Nat.reduceAdd, Nat.reduceMul, Nat.reduceSub, Nat.reduceLeDiff]
  refine condK_split (fun h => ?_) (fun h => ?_)
  · have hlt : k < l.length := by simpa using h
    have g0 := CacheEntry.dsL_get l k hlt
    have hd0 := CacheEntry.ds_len l[k]
    have ht0 : List.take 7 l[k].ds = l[k].ds := List.take_of_length_le (by omega)
    have ho0 : (l[k].ds).all oneD = true := by rw [List.all_eq_true]; exact CacheEntry.one l[k]
    simp only [h, h5, e0, e1, e2, g0, hd0, ht0, ho0, List.take_zero, List.nil_append, go_sem, ↓reduceIte, reduceCtorEq, Nat.reduceLT, Nat.reduceEqDiff, Nat.reduceAdd, Nat.reduceMul, Nat.reduceSub, Nat.reduceLeDiff]
    refine callK_intro _ (hel l[k] (List.getElem_mem hlt)) (by simp only [List.forall_mem_append, List.forall_mem_cons]; exact ⟨⟨hf, Cl.ag' (CacheEntry.cl _), by simp⟩, hc⟩) ?_
    cases hc : p l[k]
    · simp only [hc, h5, go_sem, ↓reduceIte, reduceCtorEq, Nat.reduceLT, Nat.reduceEqDiff, Nat.reduceAdd, Nat.reduceMul, Nat.reduceSub, Nat.reduceLeDiff]
      refine nextC_mk (by simp [setE, wrap_succ k (by omega)]) hlt ⟨rfl, by simp [setE, e0, e1, e2, CacheEntry.sl], ?_⟩
      rw [any_take_succ hlt, hp, hc]; rfl
    · simp only [hc, go_sem, ↓reduceIte, reduceCtorEq, Nat.reduceLT, Nat.reduceEqDiff, Nat.reduceAdd, Nat.reduceMul, Nat.reduceSub, Nat.reduceLeDiff]
      exact Fz.int (idxF_hit hlt hp hc).symm
  · have hk' : k = l.length := by simp at h; omega
    simp only [h, go_sem, ↓reduceIte, reduceCtorEq, Nat.reduceLT, Nat.reduceEqDiff, Nat.reduceAdd, Nat.reduceMul, Nat.reduceSub, Nat.reduceLeDiff]
    refine Fz.int ?_
    rw [hk', List.take_length] at hp
    exact (idxF_none hp).symm
theorem containsFuncEntry (l : List CacheEntry) (p : CacheEntry → Bool) (f : FuncId) (first caps : List D) (hl : l.length ≤ maxLen) (hf : ∀ d ∈ first, Cl d) (hc : ∀ d ∈ caps, Cl d)
    (hel : ∀ x ∈ l, Sp Try.prog f (first ++ [.ag x.ds] ++ caps) (B (p x))) : Sp Try.prog 32 [CacheEntry.sl l, .fn f first caps] (B (l.any p)) := by
  refine Sp.of_vc [] [.tmp 4] Try.func32 rfl (by kernel_rfl) Try.ntmps32 rfl (by simp) ?_
  simp only [go_sem, ↓reduceIte, reduceCtorEq, Nat.reduceLT, Nat.reduceEqDiff, Nat.reduceAdd, Nat.reduceMul, Nat.reduceSub, Nat.reduceLeDiff]
  refine callK_intro _ (indexFuncEntry l p f first caps hl hf hc hel) (by simp only [List.nil_append, List.append_nil, List.forall_mem_cons]; exact ⟨CacheEntry.cl_sl l, Cl.fn' hf hc, by simp⟩) ?_
  simp only [go_sem, ↓reduceIte, reduceCtorEq, Nat.reduceLT, Nat.reduceEqDiff, Nat.reduceAdd, Nat.reduceMul, Nat.reduceSub, Nat.reduceLeDiff]
  exact Fz.bool (idxF_any l)
theorem l00In (n lo hi : Int) : Sp Try.prog 17 [I n, I lo, I hi] (B (inR n lo hi)) := by
  refine Sp.of_vc [] [.tmp 6] Try.func17 rfl (by kernel_rfl) Try.ntmps17 rfl (by simp) ?_
  simp only [go_sem, ↓reduceIte, reduceCtorEq, Nat.reduceLT, Nat.reduceEqDiff, Nat.reduceAdd, Nat.reduceMul, Nat.reduceSub, Nat.reduceLeDiff]
  by_cases h1 : lo ≤ n
  · simp only [h1, go_sem, ↓reduceIte, reduceCtorEq, Nat.reduceLT, Nat.reduceEqDiff, Nat.reduceAdd, Nat.reduceMul, Nat.reduceSub, Nat.reduceLeDiff]
    exact Fz.bool (by simp [inR, h1])
  · simp only [h1, go_sem, ↓reduceIte, reduceCtorEq, Nat.reduceLT, Nat.reduceEqDiff, Nat.reduceAdd, Nat.reduceMul, Nat.reduceSub, Nat.reduceLeDiff]
    exact Fz.bool (by simp [inR, h1])
theorem truth (b : Bool) : Sp Try.prog 79 [B b] (I (if b then 1 else 0)) := by
  refine Sp.of_vc [] [.tmp 2] Try.func79 rfl (by kernel_rfl) Try.ntmps79 rfl (by simp) ?_
  simp only [go_sem, ↓reduceIte, reduceCtorEq, Nat.reduceLT, Nat.reduceEqDiff, Nat.reduceAdd, Nat.reduceMul, Nat.reduceSub, Nat.reduceLeDiff]
  cases b <;> simp only [go_sem, ↓reduceIte, reduceCtorEq, Nat.reduceLT, Nat.reduceEqDiff, Nat.reduceAdd, Nat.reduceMul, Nat.reduceSub, Nat.reduceLeDiff] <;> exact Fz.int (by simp)
theorem isInt (n : Int) : Sp Try.prog 83 [I n] (B (inR n (-2147483648) 2147483647)) := by
  refine Sp.of_vc [] [.tmp 2] Try.func83 rfl (by kernel_rfl) Try.ntmps83 rfl (by simp) ?_
  simp only [go_sem, ↓reduceIte, reduceCtorEq, Nat.reduceLT, Nat.reduceEqDiff, Nat.reduceAdd, Nat.reduceMul, Nat.reduceSub, Nat.reduceLeDiff]
  by_cases h1 : (-2147483648 : Int) ≤ n
  · simp only [h1, go_sem, ↓reduceIte, reduceCtorEq, Nat.reduceLT, Nat.reduceEqDiff, Nat.reduceAdd, Nat.reduceMul, Nat.reduceSub, Nat.reduceLeDiff]
    exact Fz.bool (by simp [inR, h1] <;> omega)
  · simp only [h1, go_sem, ↓reduceIte, reduceCtorEq, Nat.reduceLT, Nat.reduceEqDiff, Nat.reduceAdd, Nat.reduceMul, Nat.reduceSub, Nat.reduceLeDiff]
    exact Fz.bool (by simp [inR, h1] <;> omega)
theorem isOperator (n : Int) : Sp Try.prog 84 [I n] (B (inR n (1) 6)) := by
  refine Sp.of_vc [] [.tmp 2] Try.func84 rfl (by kernel_rfl) Try.ntmps84 rfl (by simp) ?_
  simp only [go_sem, ↓reduceIte, reduceCtorEq, Nat.reduceLT, Nat.reduceEqDiff, Nat.reduceAdd, Nat.reduceMul, Nat.reduceSub, Nat.reduceLeDiff]
  by_cases h1 : (1 : Int) ≤ n
  · simp only [h1, go_sem, ↓reduceIte, reduceCtorEq, Nat.reduceLT, Nat.reduceEqDiff, Nat.reduceAdd, Nat.reduceMul, Nat.reduceSub, Nat.reduceLeDiff]
    exact Fz.bool (by simp [inR, h1] <;> omega)
  · simp only [h1, go_sem, ↓reduceIte, reduceCtorEq, Nat.reduceLT, Nat.reduceEqDiff, Nat.reduceAdd, Nat.reduceMul, Nat.reduceSub, Nat.reduceLeDiff]
    exact Fz.bool (by simp [inR, h1] <;> omega)
theorem isDefIndex (n : Int) : Sp Try.prog 85 [I n] (B (inR n (0) 23)) := by
  refine Sp.of_vc [] [.tmp 2] Try.func85 rfl (by kernel_rfl) Try.ntmps85 rfl (by simp) ?_
  simp only [go_sem, ↓reduceIte, reduceCtorEq, Nat.reduceLT, Nat.reduceEqDiff, Nat.reduceAdd, Nat.reduceMul, Nat.reduceSub, Nat.reduceLeDiff]
  by_cases h1 : (0 : Int) ≤ n
  · simp only [h1, go_sem, ↓reduceIte, reduceCtorEq, Nat.reduceLT, Nat.reduceEqDiff, Nat.reduceAdd, Nat.reduceMul, Nat.reduceSub, Nat.reduceLeDiff]
    exact Fz.bool (by simp [inR, h1] <;> omega)
  · simp only [h1, go_sem, ↓reduceIte, reduceCtorEq, Nat.reduceLT, Nat.reduceEqDiff, Nat.reduceAdd, Nat.reduceMul, Nat.reduceSub, Nat.reduceLeDiff]
    exact Fz.bool (by simp [inR, h1] <;> omega)
theorem isCacheSize (n : Int) : Sp Try.prog 18 [I n] (B (inR n (1) 8)) := by
  refine Sp.of_vc [] [.tmp 2] Try.func18 rfl (by kernel_rfl) Try.ntmps18 rfl (by simp) ?_
  simp only [go_sem, ↓reduceIte, reduceCtorEq, Nat.reduceLT, Nat.reduceEqDiff, Nat.reduceAdd, Nat.reduceMul, Nat.reduceSub, Nat.reduceLeDiff]
  by_cases h1 : (1 : Int) ≤ n
  · simp only [h1, go_sem, ↓reduceIte, reduceCtorEq, Nat.reduceLT, Nat.reduceEqDiff, Nat.reduceAdd, Nat.reduceMul, Nat.reduceSub, Nat.reduceLeDiff]
    exact Fz.bool (by simp [inR, h1] <;> omega)
  · simp only [h1, go_sem, ↓reduceIte, reduceCtorEq, Nat.reduceLT, Nat.reduceEqDiff, Nat.reduceAdd, Nat.reduceMul, Nat.reduceSub, Nat.reduceLeDiff]
    exact Fz.bool (by simp [inR, h1] <;> omega)
end Go.Proofs.Ytjdeehcbhpakhaa
