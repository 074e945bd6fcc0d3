/-
  Contracts over data of ValidCache, of the program and of the reference. No condition.
-/
import Derived.Test.YtjdeehcbhpakhaaC7
namespace Go.Proofs.Ytjdeehcbhpakhaa
open Go.Fw
open Classical
set_option maxRecDepth 100000
set_option linter.unusedSimpArgs false
set_option linter.unusedVariables false
theorem outside (n m : Int) : Sp Try.prog 50 [I n, .cp [I m]] (B (!inR n 0 m)) := by
  refine Sp.of_vc [] [.tmp 3] Try.func50 rfl (by kernel_rfl) Try.ntmps50 rfl (by simp) ?_
  simp only [go_sem, ↓reduceIte, reduceCtorEq, Nat.reduceLT, Nat.reduceEqDiff, Nat.reduceAdd, Nat.reduceMul, Nat.reduceSub, Nat.reduceLeDiff, List.reduceReplicate]
  by_cases h1 : n < 0
  · simp only [h1, go_sem, ↓reduceIte, reduceCtorEq, Nat.reduceLT, Nat.reduceEqDiff, Nat.reduceAdd, Nat.reduceMul, Nat.reduceSub, Nat.reduceLeDiff, List.reduceReplicate]
    exact Fz.bool (by simp [inR]; omega)
  · simp only [h1, go_sem, ↓reduceIte, reduceCtorEq, Nat.reduceLT, Nat.reduceEqDiff, Nat.reduceAdd, Nat.reduceMul, Nat.reduceSub, Nat.reduceLeDiff, List.reduceReplicate]
    refine Fz.bool ?_
    unfold inR
    rw [Bool.eq_iff_iff]
    simp
    omega
theorem atMost (m : Int) (l : List Int) (hl : l.length ≤ maxLen) : Sp Try.prog 28 [I m, ints l] (B (l.all fun z => inR z 0 m)) := by
  refine Sp.of_vc [] [.tmp 4] Try.func28 rfl (by kernel_rfl) Try.ntmps28 rfl (by simp) ?_
  simp only [go_sem, ↓reduceIte, reduceCtorEq, Nat.reduceLT, Nat.reduceEqDiff, Nat.reduceAdd, Nat.reduceMul, Nat.reduceSub, Nat.reduceLeDiff, List.reduceReplicate]
  refine callK_intro _ (containsFuncInt l (fun z => !inR z 0 m) _ [] [.cp [I m]] hl (by simp) (by simp) (fun z _ => by simpa using outside z m)) (by simp) ?_
  simp only [go_sem, ↓reduceIte, reduceCtorEq, Nat.reduceLT, Nat.reduceEqDiff, Nat.reduceAdd, Nat.reduceMul, Nat.reduceSub, Nat.reduceLeDiff, List.reduceReplicate]
  refine Fz.bool ?_
  rw [not_any_not]
def sameKU : CacheEntry → CacheEntry → Bool
  | .mk k _ _ u, .mk k' _ _ u' => decide (k = k') || decide (u = u')
def entryF (clock : Int) : CacheEntry → Bool
  | .mk k r c u => !decide (k = ⟨#[]⟩) && (r.valid && !r.above 0) && !r.anyC boxed && countsF c && inR u 1 clock
def cacheF : Cache → Prop
  | .mk s c es => inR s 1 8 = true ∧ inR c 0 1000000000 = true ∧ (es.length : Int) ≤ s ∧ ∀ (i : Nat) (h : i < es.length), entryF c es[i] = true ∧ (es.take i).any (fun f => sameKU f es[i]) = false
theorem sameKU_fn (f e : CacheEntry) : Sp Try.prog 33 [.ag f.ds, .cp e.ds] (B (sameKU f e)) := by
  obtain ⟨fk, ⟨f0, f1, f2, f3⟩, fc, fu⟩ := f
  obtain ⟨ek, ⟨e0, e1, e2, e3⟩, ec, eu⟩ := e
  refine Sp.of_vc [] [.tmp 3] Try.func33 rfl (by kernel_rfl) Try.ntmps33 rfl (by simp) ?_
  simp only [CacheEntry.ds, Core.ds, go_sem, ↓reduceIte, reduceCtorEq, Nat.reduceLT, Nat.reduceEqDiff, Nat.reduceAdd, Nat.reduceMul, Nat.reduceSub, Nat.reduceLeDiff, List.reduceReplicate]
  repeat' (first | (refine guardK_split (fun h => ?_) (fun h => ?_) <;> simp only [h, go_sem, ↓reduceIte, reduceCtorEq, Nat.reduceLT, Nat.reduceEqDiff, Nat.reduceAdd, Nat.reduceMul, Nat.reduceSub, Nat.reduceLeDiff, List.reduceReplicate]) | (refine condK_split (fun h => ?_) (fun h => ?_) <;> simp only [h, go_sem, ↓reduceIte, reduceCtorEq, Nat.reduceLT, Nat.reduceEqDiff, Nat.reduceAdd, Nat.reduceMul, Nat.reduceSub, Nat.reduceLeDiff, List.reduceReplicate]))
  all_goals (refine Fz.bool ?_; simp_all [sameKU, int_beq, bytes_eq])
theorem entry_take (l : List CacheEntry) (k : Nat) : (CacheEntry.dsL l).take k = CacheEntry.dsL (l.take k) := by simp [CacheEntry.dsL]
theorem validCache (a : Cache) (hs : a.sz ≤ 1048576) (ho : a.ok) : Sp Try.prog 16 [.ag a.ds] (B (decide (cacheF a))) := by
  match a, hs, ho with
  | .mk s c es, hs, ho =>
  simp only [Cache.ok] at ho
  simp only [Cache.sz] at hs
  obtain ⟨o0, o1⟩ := ho
  have o0' := o0
  unfold maxLen at o0
  have hda : (CacheEntry.dsL es).length = es.length := CacheEntry.dsL_len es
  refine Sp.of_vc [] [.tmp 2] Try.func16 rfl (by kernel_rfl) Try.ntmps16 rfl (by simp) ?_
  simp only [Cache.ds, CacheEntry.sl, hda, go_sem, ↓reduceIte, reduceCtorEq, Nat.reduceLT, Nat.reduceEqDiff, Nat.reduceAdd, Nat.reduceMul, Nat.reduceSub, Nat.reduceLeDiff, List.reduceReplicate]
  refine callK_intro _ (isCacheSize s) (by simp) ?_
  cases c1 : inR s 1 8
  · simp only [go_sem, ↓reduceIte, reduceCtorEq, Nat.reduceLT, Nat.reduceEqDiff, Nat.reduceAdd, Nat.reduceMul, Nat.reduceSub, Nat.reduceLeDiff, List.reduceReplicate]
    exact Fz.bool (by simp [cacheF, c1])
  simp only [hda, go_sem, ↓reduceIte, reduceCtorEq, Nat.reduceLT, Nat.reduceEqDiff, Nat.reduceAdd, Nat.reduceMul, Nat.reduceSub, Nat.reduceLeDiff, List.reduceReplicate]
  refine callK_frz [I 1000000000, ints [c]] _ (atMost 1000000000 [c] (by simp [maxLen])) rfl
    (by simp only [List.nil_append, List.append_nil, List.map_cons, List.map_nil, List.zip_cons_cons, List.zip_nil_right, List.forall_mem_cons]; exact ⟨.cl _ (cl_sc _), Fz.rows (rows := [[I c]]) rfl rfl rfl (by decide) rfl (by simp) (by simp) (by simp), by simp⟩) rfl ?_
  have f2 : ([c].all fun z => inR z 0 1000000000) = inR c 0 1000000000 := by simp
  rw [f2]
  cases c2 : inR c 0 1000000000
  · simp only [go_sem, ↓reduceIte, reduceCtorEq, Nat.reduceLT, Nat.reduceEqDiff, Nat.reduceAdd, Nat.reduceMul, Nat.reduceSub, Nat.reduceLeDiff, List.reduceReplicate]
    exact Fz.bool (by simp [cacheF, c2])
  simp only [hda, go_sem, ↓reduceIte, reduceCtorEq, Nat.reduceLT, Nat.reduceEqDiff, Nat.reduceAdd, Nat.reduceMul, Nat.reduceSub, Nat.reduceLeDiff, List.reduceReplicate]
  by_cases c3 : (es.length : Int) > s
  · have f3 : decide ((es.length : Int) > s) = true := by simp [c3]
    simp only [f3, go_sem, ↓reduceIte, reduceCtorEq, Nat.reduceLT, Nat.reduceEqDiff, Nat.reduceAdd, Nat.reduceMul, Nat.reduceSub, Nat.reduceLeDiff, List.reduceReplicate]
    refine Fz.bool ?_
    symm; rw [decide_eq_false_iff_not]
    rintro ⟨_, _, h, _⟩
    omega
  have f3 : decide ((es.length : Int) > s) = false := by simp; omega
  simp only [f3, hda, go_sem, ↓reduceIte, reduceCtorEq, Nat.reduceLT, Nat.reduceEqDiff, Nat.reduceAdd, Nat.reduceMul, Nat.reduceSub, Nat.reduceLeDiff, List.reduceReplicate]
  refine loop_count 27 es.length (fun k => Fw.Inv 72 [(1, .cp [I s, I c, .sl 7 (CacheEntry.dsL es)]), (25, .sl 7 (CacheEntry.dsL es)), (26, I es.length)] (∀ (i : Nat) (h : i < es.length), i < k → entryF c es[i] = true ∧ (es.take i).any (fun f => sameKU f es[i]) = false)) rfl ⟨rfl, by simp [envOf, setE], by simp⟩ ?_
  rintro k ⟨env, H, n, nt⟩ hk h5 ⟨rfl, hfs, hp⟩
  simp only [List.forall_mem_cons] at h5 hfs
  obtain ⟨e0, e1, e2, -⟩ := hfs
  simp only [h5, e0, e1, e2, hda, go_sem, ↓reduceIte, reduceCtorEq, Nat.reduceLT, Nat.reduceEqDiff, Nat.reduceAdd, Nat.reduceMul, Nat.reduceSub, Nat.reduceLeDiff, List.reduceReplicate]
  refine condK_split (fun h => ?_) (fun h => ?_)
  · have hlt : k < es.length := by simpa using h
    have g0 := CacheEntry.dsL_get es k hlt
    have hx := List.getElem_mem hlt
    have hok := CacheEntry.okS_mem o1 _ hx
    have hsz := CacheEntry.sz_mem hx
    obtain ⟨e, he⟩ : ∃ e, e = es[k] := ⟨_, rfl⟩
    have hcl := CacheEntry.cl e
    have bad : entryF c e = false → false = decide (cacheF (.mk s c es)) := fun hb => by
      symm; rw [decide_eq_false_iff_not]
      rintro ⟨_, _, _, h⟩
      have := (h k hlt).1
      rw [← he, hb] at this; cases this
    have bad2 : (es.take k).any (fun f => sameKU f e) = true → false = decide (cacheF (.mk s c es)) := fun hb => by
      symm; rw [decide_eq_false_iff_not]
      rintro ⟨_, _, _, h⟩
      have := (h k hlt).2
      rw [← he, hb] at this; cases this
    have next : entryF c e = true → (es.take k).any (fun f => sameKU f e) = false → ∀ (i : Nat) (h : i < es.length), i < k + 1 → entryF c es[i] = true ∧ (es.take i).any (fun f => sameKU f es[i]) = false := fun h1 h2 i hi hik => by
      by_cases hik' : i < k
      · exact hp i hi hik'
      · have : i = k := by omega
        subst this
        rw [← he]; exact ⟨h1, h2⟩
    rw [← he] at g0 hx hok hsz
    clear hp hk
    obtain ⟨key, ⟨r0, r1, r2, r3⟩, cnt, us⟩ := e
    simp only [CacheEntry.ok, CacheEntry.sz] at hok hsz
    obtain ⟨q0, q1, q2⟩ := hok
    have hds : Core.ds (.mk r0 r1 r2 r3) = [I r0, I r1, ints r2, .sl 4 (Core.dsL r3)] := by rw [Core.ds]
    simp only [CacheEntry.ds, Core.ds, ints, List.cons_append, List.nil_append] at g0
    simp only [h, h5, e0, e1, e2, g0, go_sem, ↓reduceIte, reduceCtorEq, Nat.reduceLT, Nat.reduceEqDiff, Nat.reduceAdd, Nat.reduceMul, Nat.reduceSub, Nat.reduceLeDiff, List.reduceReplicate]
    by_cases d0 : key = ⟨#[]⟩
    · have f0 : (key.toList == (⟨#[]⟩ : ByteArray).toList) = true := by rw [bytes_eq]; simp [d0]
      simp only [f0, go_sem, ↓reduceIte, reduceCtorEq, Nat.reduceLT, Nat.reduceEqDiff, Nat.reduceAdd, Nat.reduceMul, Nat.reduceSub, Nat.reduceLeDiff, List.reduceReplicate]
      exact Fz.bool (bad (by simp [entryF, d0]))
    have f0 : (key.toList == (⟨#[]⟩ : ByteArray).toList) = false := by rw [bytes_eq]; simp [d0]
    simp only [f0, go_sem, ↓reduceIte, reduceCtorEq, Nat.reduceLT, Nat.reduceEqDiff, Nat.reduceAdd, Nat.reduceMul, Nat.reduceSub, Nat.reduceLeDiff, List.reduceReplicate]
    refine callK_intro _ (by have := isClosed (.mk r0 r1 r2 r3) (by omega) q1; rw [hds] at this; exact this) (by simp [ints]; exact Core.clL _) ?_
    have hef : entryF c (.mk key (.mk r0 r1 r2 r3) cnt us) = (!decide (key = ⟨#[]⟩) && ((Core.mk r0 r1 r2 r3).valid && !(Core.mk r0 r1 r2 r3).above 0) && !(Core.mk r0 r1 r2 r3).anyC boxed && countsF cnt && inR us 1 c) := rfl
    cases d1 : ((Core.mk r0 r1 r2 r3).valid && !(Core.mk r0 r1 r2 r3).above 0)
    · simp only [go_sem, ↓reduceIte, reduceCtorEq, Nat.reduceLT, Nat.reduceEqDiff, Nat.reduceAdd, Nat.reduceMul, Nat.reduceSub, Nat.reduceLeDiff, List.reduceReplicate]
      exact Fz.bool (bad (by rw [hef, d1]; simp))
    simp only [go_sem, ↓reduceIte, reduceCtorEq, Nat.reduceLT, Nat.reduceEqDiff, Nat.reduceAdd, Nat.reduceMul, Nat.reduceSub, Nat.reduceLeDiff, List.reduceReplicate]
    refine callK_intro _ (by have := isErased (.mk r0 r1 r2 r3) (by omega) q1; rw [hds] at this; exact this) (by simp [ints]; exact Core.clL _) ?_
    have hv : (Core.mk r0 r1 r2 r3).valid = true := by simp only [Bool.and_eq_true] at d1; exact d1.1
    rw [hv]
    cases d2 : (Core.mk r0 r1 r2 r3).anyC boxed
    case true =>
      simp only [go_sem, ↓reduceIte, reduceCtorEq, Nat.reduceLT, Nat.reduceEqDiff, Nat.reduceAdd, Nat.reduceMul, Nat.reduceSub, Nat.reduceLeDiff, List.reduceReplicate]
      exact Fz.bool (bad (by rw [hef, d1, d2]; simp))
    simp only [go_sem, ↓reduceIte, reduceCtorEq, Nat.reduceLT, Nat.reduceEqDiff, Nat.reduceAdd, Nat.reduceMul, Nat.reduceSub, Nat.reduceLeDiff, List.reduceReplicate]
    refine callK_intro _ (validCounts cnt q2) (by simp) ?_
    cases d3 : countsF cnt
    · simp only [go_sem, ↓reduceIte, reduceCtorEq, Nat.reduceLT, Nat.reduceEqDiff, Nat.reduceAdd, Nat.reduceMul, Nat.reduceSub, Nat.reduceLeDiff, List.reduceReplicate]
      exact Fz.bool (bad (by rw [hef, d1, d2, d3]; simp))
    simp only [go_sem, ↓reduceIte, reduceCtorEq, Nat.reduceLT, Nat.reduceEqDiff, Nat.reduceAdd, Nat.reduceMul, Nat.reduceSub, Nat.reduceLeDiff, List.reduceReplicate]
    by_cases d4 : us < 1
    · have f4 : decide (us < 1) = true := by simp [d4]
      simp only [f4, go_sem, ↓reduceIte, reduceCtorEq, Nat.reduceLT, Nat.reduceEqDiff, Nat.reduceAdd, Nat.reduceMul, Nat.reduceSub, Nat.reduceLeDiff, List.reduceReplicate]
      exact Fz.bool (bad (by rw [hef, d1, d2, d3]; simp [inR]; omega))
    have f4 : decide (us < 1) = false := by simp; omega
    simp only [f4, go_sem, ↓reduceIte, reduceCtorEq, Nat.reduceLT, Nat.reduceEqDiff, Nat.reduceAdd, Nat.reduceMul, Nat.reduceSub, Nat.reduceLeDiff, List.reduceReplicate]
    by_cases d5 : us > c
    · have f5 : decide (us > c) = true := by simp [d5]
      simp only [f5, e0, go_sem, ↓reduceIte, reduceCtorEq, Nat.reduceLT, Nat.reduceEqDiff, Nat.reduceAdd, Nat.reduceMul, Nat.reduceSub, Nat.reduceLeDiff, List.reduceReplicate]
      exact Fz.bool (bad (by rw [hef, d1, d2, d3]; simp [inR]; omega))
    have f5 : decide (us > c) = false := by simp; omega
    have hg : entryF c (.mk key (.mk r0 r1 r2 r3) cnt us) = true := by rw [hef, d1, d2, d3]; simp [inR, d0]; omega
    have hkl : ((k : Int) ≤ (es.length : Int)) = True := eq_true (by omega)
    simp only [f5, e0, h5, hda, hkl, entry_take, go_sem, ↓reduceIte, reduceCtorEq, Nat.reduceLT, Nat.reduceEqDiff, Nat.reduceAdd, Nat.reduceMul, Nat.reduceSub, Nat.reduceLeDiff, List.reduceReplicate]
    have hd7 : CacheEntry.ds (.mk key (.mk r0 r1 r2 r3) cnt us) = [S key, I r0, I r1, ints r2, .sl 4 (Core.dsL r3), ints cnt, I us] := by simp [CacheEntry.ds, Core.ds]
    refine callK_frz [CacheEntry.sl (es.take k), .fn 33 [] [.cp (CacheEntry.ds (.mk key (.mk r0 r1 r2 r3) cnt us))]] _
      (containsFuncEntry (es.take k) (fun f => sameKU f (.mk key (.mk r0 r1 r2 r3) cnt us)) _ [] [.cp (CacheEntry.ds (.mk key (.mk r0 r1 r2 r3) cnt us))] (by simp [maxLen]; omega) (by simp) (by simp only [List.forall_mem_cons]; exact ⟨Cl.cp' hcl, by simp⟩) (fun f _ => by simpa using sameKU_fn f _)) rfl
      (by simp only [List.nil_append, List.append_nil, List.map_cons, List.map_nil, List.zip_cons_cons, List.zip_nil_right, List.forall_mem_cons]; exact ⟨.cl _ (CacheEntry.cl_sl _), Fz.fnc rfl (by simp only [List.zip_cons_cons, List.zip_nil_right, List.forall_mem_cons]; exact ⟨Fz.cell rfl rfl (by rw [hd7]; rfl) hcl, by simp⟩), by simp⟩) rfl ?_
    cases d6 : (es.take k).any fun f => sameKU f (.mk key (.mk r0 r1 r2 r3) cnt us)
    · simp only [h5, go_sem, ↓reduceIte, reduceCtorEq, Nat.reduceLT, Nat.reduceEqDiff, Nat.reduceAdd, Nat.reduceMul, Nat.reduceSub, Nat.reduceLeDiff, List.reduceReplicate]
      refine nextC_mk (by simp [setE, wrap_succ k (by omega)]) hlt ⟨rfl, ?_, next hg d6⟩
      simp only [e0, e1, e2, List.forall_mem_cons, List.not_mem_nil, false_implies, implies_true, setE, ↓reduceIte, Nat.reduceEqDiff, reduceCtorEq, and_true, true_and, and_self, eq_self]
    · simp only [go_sem, ↓reduceIte, reduceCtorEq, Nat.reduceLT, Nat.reduceEqDiff, Nat.reduceAdd, Nat.reduceMul, Nat.reduceSub, Nat.reduceLeDiff, List.reduceReplicate]
      exact Fz.bool (bad2 d6)
  · have hk' : k = es.length := by simp at h; omega
    simp only [h, go_sem, ↓reduceIte, reduceCtorEq, Nat.reduceLT, Nat.reduceEqDiff, Nat.reduceAdd, Nat.reduceMul, Nat.reduceSub, Nat.reduceLeDiff, List.reduceReplicate]
    refine Fz.bool ?_
    symm; rw [decide_eq_true_eq]
    exact ⟨c1, c2, by omega, fun i hi => hp i hi (by omega)⟩
theorem l41Ok (a : Cache) (hs : a.sz ≤ 1048576) (ho : a.ok) : Sp Try.prog 27 [.cp a.ds] (B (decide (cacheF a))) := by
  match a, hs, ho with
  | .mk s c es, hs, ho =>
  simp only [Cache.ok] at ho
  simp only [Cache.sz] at hs
  obtain ⟨o0, o1⟩ := ho
  have o0' := o0
  unfold maxLen at o0
  have hda : (CacheEntry.dsL es).length = es.length := CacheEntry.dsL_len es
  refine Sp.of_vc [] [.tmp 2] Try.func27 rfl (by kernel_rfl) Try.ntmps27 rfl (by simp) ?_
  simp only [Cache.ds, CacheEntry.sl, hda, go_sem, ↓reduceIte, reduceCtorEq, Nat.reduceLT, Nat.reduceEqDiff, Nat.reduceAdd, Nat.reduceMul, Nat.reduceSub, Nat.reduceLeDiff, List.reduceReplicate]
  refine drawK_intro mixed (by kernel_rfl) ?_
  refine callQ_intro _ (l00In _ _ _) (by simp) rfl ?_
  cases c1 : inR s 1 8
  · simp only [go_sem, ↓reduceIte, reduceCtorEq, Nat.reduceLT, Nat.reduceEqDiff, Nat.reduceAdd, Nat.reduceMul, Nat.reduceSub, Nat.reduceLeDiff, List.reduceReplicate]
    exact Fz.bool (by simp [cacheF, c1])
  simp only [hda, go_sem, ↓reduceIte, reduceCtorEq, Nat.reduceLT, Nat.reduceEqDiff, Nat.reduceAdd, Nat.reduceMul, Nat.reduceSub, Nat.reduceLeDiff, List.reduceReplicate]
  refine callQ_intro _ (l00In _ _ _) (by simp) rfl ?_
  cases c2 : inR c 0 1000000000
  · simp only [go_sem, ↓reduceIte, reduceCtorEq, Nat.reduceLT, Nat.reduceEqDiff, Nat.reduceAdd, Nat.reduceMul, Nat.reduceSub, Nat.reduceLeDiff, List.reduceReplicate]
    exact Fz.bool (by simp [cacheF, c2])
  simp only [hda, go_sem, ↓reduceIte, reduceCtorEq, Nat.reduceLT, Nat.reduceEqDiff, Nat.reduceAdd, Nat.reduceMul, Nat.reduceSub, Nat.reduceLeDiff, List.reduceReplicate]
  by_cases c3 : (es.length : Int) > s
  · have f3 : decide ((es.length : Int) > s) = true := by simp [c3]
    simp only [f3, go_sem, ↓reduceIte, reduceCtorEq, Nat.reduceLT, Nat.reduceEqDiff, Nat.reduceAdd, Nat.reduceMul, Nat.reduceSub, Nat.reduceLeDiff, List.reduceReplicate]
    refine Fz.bool ?_
    symm; rw [decide_eq_false_iff_not]
    rintro ⟨_, _, h, _⟩
    omega
  have f3 : decide ((es.length : Int) > s) = false := by simp; omega
  simp only [f3, hda, go_sem, ↓reduceIte, reduceCtorEq, Nat.reduceLT, Nat.reduceEqDiff, Nat.reduceAdd, Nat.reduceMul, Nat.reduceSub, Nat.reduceLeDiff, List.reduceReplicate]
  refine loop_count 3 es.length (fun k => Fw.Inv 119 [(0, .cp [I s, I c, .sl 7 (CacheEntry.dsL es)])] (∀ (i : Nat) (h : i < es.length), i < k → entryF c es[i] = true ∧ (es.take i).any (fun f => sameKU f es[i]) = false)) rfl ⟨rfl, by simp [envOf, setE], by simp⟩ ?_
  rintro k ⟨env, H, n, nt⟩ hk h5 ⟨rfl, hfs, hp⟩
  simp only [List.forall_mem_cons] at h5 hfs
  obtain ⟨e0, -⟩ := hfs
  simp only [h5, e0, hda, go_sem, ↓reduceIte, reduceCtorEq, Nat.reduceLT, Nat.reduceEqDiff, Nat.reduceAdd, Nat.reduceMul, Nat.reduceSub, Nat.reduceLeDiff, List.reduceReplicate]
  refine condK_split (fun h => ?_) (fun h => ?_)
  · have hlt : k < es.length := by simpa using h
    have g0 := CacheEntry.dsL_get es k hlt
    have hx := List.getElem_mem hlt
    have hok := CacheEntry.okS_mem o1 _ hx
    have hsz := CacheEntry.sz_mem hx
    obtain ⟨e, he⟩ : ∃ e, e = es[k] := ⟨_, rfl⟩
    have hcl := CacheEntry.cl e
    have bad : entryF c e = false → false = decide (cacheF (.mk s c es)) := fun hb => by
      symm; rw [decide_eq_false_iff_not]
      rintro ⟨_, _, _, h⟩
      have := (h k hlt).1
      rw [← he, hb] at this; cases this
    have bad2 : (es.take k).any (fun f => sameKU f e) = true → false = decide (cacheF (.mk s c es)) := fun hb => by
      symm; rw [decide_eq_false_iff_not]
      rintro ⟨_, _, _, h⟩
      have := (h k hlt).2
      rw [← he, hb] at this; cases this
    have next : entryF c e = true → (es.take k).any (fun f => sameKU f e) = false → ∀ (i : Nat) (h : i < es.length), i < k + 1 → entryF c es[i] = true ∧ (es.take i).any (fun f => sameKU f es[i]) = false := fun h1 h2 i hi hik => by
      by_cases hik' : i < k
      · exact hp i hi hik'
      · have : i = k := by omega
        subst this
        rw [← he]; exact ⟨h1, h2⟩
    rw [← he] at g0 hx hok hsz
    clear hp hk
    obtain ⟨key, ⟨r0, r1, r2, r3⟩, cnt, us⟩ := e
    simp only [CacheEntry.ok, CacheEntry.sz] at hok hsz
    obtain ⟨q0, q1, q2⟩ := hok
    have hds : Core.ds (.mk r0 r1 r2 r3) = [I r0, I r1, ints r2, .sl 4 (Core.dsL r3)] := by rw [Core.ds]
    have hef : entryF c (.mk key (.mk r0 r1 r2 r3) cnt us) = (!decide (key = ⟨#[]⟩) && ((Core.mk r0 r1 r2 r3).valid && !(Core.mk r0 r1 r2 r3).above 0) && !(Core.mk r0 r1 r2 r3).anyC boxed && countsF cnt && inR us 1 c) := rfl
    simp only [CacheEntry.ds, Core.ds, ints, List.cons_append, List.nil_append] at g0
    simp only [h, h5, e0, g0, go_sem, ↓reduceIte, reduceCtorEq, Nat.reduceLT, Nat.reduceEqDiff, Nat.reduceAdd, Nat.reduceMul, Nat.reduceSub, Nat.reduceLeDiff, List.reduceReplicate]
    refine drawK_intro mixed (by kernel_rfl) ?_
    by_cases d0 : key = ⟨#[]⟩
    · have f0 : (key.toList == (⟨#[]⟩ : ByteArray).toList) = true := by rw [bytes_eq]; simp [d0]
      simp only [f0, go_sem, ↓reduceIte, reduceCtorEq, Nat.reduceLT, Nat.reduceEqDiff, Nat.reduceAdd, Nat.reduceMul, Nat.reduceSub, Nat.reduceLeDiff, List.reduceReplicate]
      exact Fz.bool (bad (by simp [entryF, d0]))
    have f0 : (key.toList == (⟨#[]⟩ : ByteArray).toList) = false := by rw [bytes_eq]; simp [d0]
    simp only [f0, go_sem, ↓reduceIte, reduceCtorEq, Nat.reduceLT, Nat.reduceEqDiff, Nat.reduceAdd, Nat.reduceMul, Nat.reduceSub, Nat.reduceLeDiff, List.reduceReplicate]
    refine callQ_intro _ ((l06Closed (.mk r0 r1 r2 r3) (by omega) q1).le1 (LeD.cp 4 (by rw [hds]; rfl))) (by simp; exact Core.clL _) rfl ?_
    cases d1 : ((Core.mk r0 r1 r2 r3).valid && !(Core.mk r0 r1 r2 r3).above 0)
    · simp only [go_sem, ↓reduceIte, reduceCtorEq, Nat.reduceLT, Nat.reduceEqDiff, Nat.reduceAdd, Nat.reduceMul, Nat.reduceSub, Nat.reduceLeDiff, List.reduceReplicate]
      exact Fz.bool (bad (by rw [hef, d1]; simp))
    simp only [go_sem, ↓reduceIte, reduceCtorEq, Nat.reduceLT, Nat.reduceEqDiff, Nat.reduceAdd, Nat.reduceMul, Nat.reduceSub, Nat.reduceLeDiff, List.reduceReplicate]
    refine callQ_intro _ ((l06Erased (.mk r0 r1 r2 r3) q1).le1 (LeD.cp 4 (by rw [hds]; rfl))) (by simp; exact Core.clL _) rfl ?_
    cases d2 : (Core.mk r0 r1 r2 r3).anyC boxed
    case true =>
      simp only [go_sem, ↓reduceIte, reduceCtorEq, Nat.reduceLT, Nat.reduceEqDiff, Nat.reduceAdd, Nat.reduceMul, Nat.reduceSub, Nat.reduceLeDiff, List.reduceReplicate]
      exact Fz.bool (bad (by rw [hef, d1, d2]; simp))
    simp only [go_sem, ↓reduceIte, reduceCtorEq, Nat.reduceLT, Nat.reduceEqDiff, Nat.reduceAdd, Nat.reduceMul, Nat.reduceSub, Nat.reduceLeDiff, List.reduceReplicate]
    refine callQ_intro _ (l15Counts cnt q2) (by simp) rfl ?_
    cases d3 : countsF cnt
    · simp only [go_sem, ↓reduceIte, reduceCtorEq, Nat.reduceLT, Nat.reduceEqDiff, Nat.reduceAdd, Nat.reduceMul, Nat.reduceSub, Nat.reduceLeDiff, List.reduceReplicate]
      exact Fz.bool (bad (by rw [hef, d1, d2, d3]; simp))
    simp only [e0, go_sem, ↓reduceIte, reduceCtorEq, Nat.reduceLT, Nat.reduceEqDiff, Nat.reduceAdd, Nat.reduceMul, Nat.reduceSub, Nat.reduceLeDiff, List.reduceReplicate]
    refine callQ_intro _ (l00In _ _ _) (by simp) rfl ?_
    cases d4 : inR us 1 c
    · simp only [go_sem, ↓reduceIte, reduceCtorEq, Nat.reduceLT, Nat.reduceEqDiff, Nat.reduceAdd, Nat.reduceMul, Nat.reduceSub, Nat.reduceLeDiff, List.reduceReplicate]
      exact Fz.bool (bad (by rw [hef, d1, d2, d3, d4]; simp))
    have hg : entryF c (.mk key (.mk r0 r1 r2 r3) cnt us) = true := by rw [hef, d1, d2, d3, d4]; simp [d0]
    simp only [go_sem, ↓reduceIte, reduceCtorEq, Nat.reduceLT, Nat.reduceEqDiff, Nat.reduceAdd, Nat.reduceMul, Nat.reduceSub, Nat.reduceLeDiff, List.reduceReplicate]
    refine loop_count 5 k (fun j => Fw.Inv 119 [(0, .cp [I s, I c, .sl 7 (CacheEntry.dsL es)]), (3, I k), (4, .cp [S key, I r0, I r1, .sl 1 (r2.map fun n => [I n]), .sl 4 (Core.dsL r3), .sl 1 (cnt.map fun n => [I n]), I us])] ((es.take j).any (fun f => sameKU f (.mk key (.mk r0 r1 r2 r3) cnt us)) = false)) rfl ⟨rfl, ?_, by simp⟩ ?_
    · simp only [e0, h5, List.forall_mem_cons, List.not_mem_nil, false_implies, implies_true, setE, ↓reduceIte, Nat.reduceEqDiff, reduceCtorEq, and_true, true_and, and_self, eq_self]
    clear e0 h5 f0 f3
    rintro j ⟨env, H, n, nt⟩ hj h5 ⟨rfl, hfs, hpj⟩
    simp only [List.forall_mem_cons] at h5 hfs
    obtain ⟨e0, e1, e2, -⟩ := hfs
    simp only [h5, e0, e1, e2, go_sem, ↓reduceIte, reduceCtorEq, Nat.reduceLT, Nat.reduceEqDiff, Nat.reduceAdd, Nat.reduceMul, Nat.reduceSub, Nat.reduceLeDiff, List.reduceReplicate]
    refine condK_split (fun h => ?_) (fun h => ?_)
    · have hltj : j < k := by simpa using h
      have hltj' : j < es.length := by omega
      have g1 := CacheEntry.dsL_get es j hltj'
      have hsucc := any_take_succ (p := fun f => sameKU f (.mk key (.mk r0 r1 r2 r3) cnt us)) (l := es) hltj'
      rw [hpj, Bool.false_or] at hsucc
      obtain ⟨e', he'⟩ : ∃ e, e = es[j] := ⟨_, rfl⟩
      rw [← he'] at g1 hsucc
      have stop : sameKU e' (.mk key (.mk r0 r1 r2 r3) cnt us) = true → (es.take k).any (fun f => sameKU f (.mk key (.mk r0 r1 r2 r3) cnt us)) = true := fun hq => by
        rw [List.any_eq_true]
        exact ⟨e', by rw [he']; exact List.mem_take_iff_getElem.2 ⟨j, by omega, rfl⟩, hq⟩
      obtain ⟨key', ⟨s0, s1, s2, s3⟩, cnt', us'⟩ := e'
      simp only [CacheEntry.ds, Core.ds, ints, List.cons_append, List.nil_append] at g1
      simp only [h, h5, e0, e1, e2, g1, go_sem, ↓reduceIte, reduceCtorEq, Nat.reduceLT, Nat.reduceEqDiff, Nat.reduceAdd, Nat.reduceMul, Nat.reduceSub, Nat.reduceLeDiff, List.reduceReplicate]
      refine drawK_intro mixed (by kernel_rfl) ?_
      by_cases d5 : key' = key
      · have f5 : (key'.toList == key.toList) = true := by rw [bytes_eq]; simp [d5]
        simp only [f5, go_sem, ↓reduceIte, reduceCtorEq, Nat.reduceLT, Nat.reduceEqDiff, Nat.reduceAdd, Nat.reduceMul, Nat.reduceSub, Nat.reduceLeDiff, List.reduceReplicate]
        exact Fz.bool (bad2 (stop (by simp [sameKU, d5])))
      have f5 : (key'.toList == key.toList) = false := by rw [bytes_eq]; simp [d5]
      simp only [f5, g1, h5, e0, e1, e2, go_sem, ↓reduceIte, reduceCtorEq, Nat.reduceLT, Nat.reduceEqDiff, Nat.reduceAdd, Nat.reduceMul, Nat.reduceSub, Nat.reduceLeDiff, List.reduceReplicate]
      by_cases d6 : us' = us
      · have f6 : (us' == us) = true := by simp [d6]
        simp only [f6, go_sem, ↓reduceIte, reduceCtorEq, Nat.reduceLT, Nat.reduceEqDiff, Nat.reduceAdd, Nat.reduceMul, Nat.reduceSub, Nat.reduceLeDiff, List.reduceReplicate]
        exact Fz.bool (bad2 (stop (by simp [sameKU, d6])))
      have f6 : (us' == us) = false := by simp [d6]
      simp only [f6, h5, go_sem, ↓reduceIte, reduceCtorEq, Nat.reduceLT, Nat.reduceEqDiff, Nat.reduceAdd, Nat.reduceMul, Nat.reduceSub, Nat.reduceLeDiff, List.reduceReplicate]
      refine nextC_mk (by simp [setE, wrap_succ j (by omega)]) hltj ⟨rfl, ?_, by rw [hsucc]; simp [sameKU, d5, d6]⟩
      simp only [e0, e1, e2, List.forall_mem_cons, List.not_mem_nil, false_implies, implies_true, setE, ↓reduceIte, Nat.reduceEqDiff, reduceCtorEq, and_true, true_and, and_self, eq_self]
    · have hj' : j = k := by simp at h; omega
      subst hj'
      simp only [h, h5, e0, e1, e2, go_sem, ↓reduceIte, reduceCtorEq, Nat.reduceLT, Nat.reduceEqDiff, Nat.reduceAdd, Nat.reduceMul, Nat.reduceSub, Nat.reduceLeDiff, List.reduceReplicate]
      refine nextC_mk (by simp [setE, wrap_succ j (by omega)]) hlt ⟨rfl, ?_, next hg hpj⟩
      simp only [e0, e1, e2, List.forall_mem_cons, List.not_mem_nil, false_implies, implies_true, setE, ↓reduceIte, Nat.reduceEqDiff, reduceCtorEq, and_true, true_and, and_self, eq_self]
  · have hk' : k = es.length := by simp at h; omega
    simp only [h, go_sem, ↓reduceIte, reduceCtorEq, Nat.reduceLT, Nat.reduceEqDiff, Nat.reduceAdd, Nat.reduceMul, Nat.reduceSub, Nat.reduceLeDiff, List.reduceReplicate]
    refine Fz.bool ?_
    symm; rw [decide_eq_true_eq]
    exact ⟨c1, c2, by omega, fun i hi => hp i hi (by omega)⟩
theorem specValidCache (a : Cache) (hs : a.sz ≤ 1048576) (ho : a.ok) : Sp Try.prog 15 [.ag a.ds] (B (decide (cacheF a))) := by
  refine Sp.of_vc [] [.tmp 2] Try.func15 rfl (by kernel_rfl) Try.ntmps15 rfl (by simp) ?_
  simp only [go_sem, ↓reduceIte, reduceCtorEq, Nat.reduceLT, Nat.reduceEqDiff, Nat.reduceAdd, Nat.reduceMul, Nat.reduceSub, Nat.reduceLeDiff, List.reduceReplicate]
  refine callK_intro _ (l41Ok a hs ho) (by simp; exact Cache.cl a) ?_
  simp only [go_sem, ↓reduceIte, reduceCtorEq, Nat.reduceLT, Nat.reduceEqDiff, Nat.reduceAdd, Nat.reduceMul, Nat.reduceSub, Nat.reduceLeDiff, List.reduceReplicate]
  exact Fz.bool rfl
theorem lawValidCache (a : Cache) (ha : a.ok) : Sp Try.prog 5 [.ag a.ds] (B true) := by
  have hla := Cache.ds_len a
  have hta : List.take 3 a.ds = a.ds := List.take_of_length_le (by omega)
  have hoa : (a.ds).all oneD = true := by rw [List.all_eq_true]; exact Cache.one a
  refine Sp.of_vc [] [.tmp 2] Try.func5 rfl (by kernel_rfl) Try.ntmps5 rfl (by simp) ?_
  simp only [hla, hta, hoa, go_sem, ↓reduceIte, reduceCtorEq, Nat.reduceLT, Nat.reduceEqDiff, Nat.reduceAdd, Nat.reduceMul, Nat.reduceSub, Nat.reduceLeDiff, List.reduceReplicate]
  refine callK_intro _ (szCache a 1048576 (by omega) (by omega) ha) (by simp; exact Cache.cl a) ?_
  by_cases s1 : (a.sz : Int) ≤ 1048576
  case neg =>
    have d1 : decide ((-1 : Int) < 0) = true := rfl
    simp only [szF_neg s1, d1, go_sem, ↓reduceIte, reduceCtorEq, Nat.reduceLT, Nat.reduceEqDiff, Nat.reduceAdd, Nat.reduceMul, Nat.reduceSub, Nat.reduceLeDiff, List.reduceReplicate]
    exact Fz.bool rfl
  have d1 : decide ((1048576 : Int) - a.sz < 0) = false := by simp; omega
  simp only [szF_pos s1, d1, hla, hta, hoa, go_sem, ↓reduceIte, reduceCtorEq, Nat.reduceLT, Nat.reduceEqDiff, Nat.reduceAdd, Nat.reduceMul, Nat.reduceSub, Nat.reduceLeDiff, List.reduceReplicate]
  refine callK_intro _ (toCache a (by omega)) (by simp; exact Cache.cl a) ?_
  simp only [hla, hta, hoa, go_sem, ↓reduceIte, reduceCtorEq, Nat.reduceLT, Nat.reduceEqDiff, Nat.reduceAdd, Nat.reduceMul, Nat.reduceSub, Nat.reduceLeDiff, List.reduceReplicate]
  refine callK_intro _ (specValidCache a (by omega) ha) (by simp; exact Cache.cl a) ?_
  simp only [hla, hta, hoa, go_sem, ↓reduceIte, reduceCtorEq, Nat.reduceLT, Nat.reduceEqDiff, Nat.reduceAdd, Nat.reduceMul, Nat.reduceSub, Nat.reduceLeDiff, List.reduceReplicate]
  refine callK_intro _ (toCache a (by omega)) (by simp; exact Cache.cl a) ?_
  simp only [hla, hta, hoa, go_sem, ↓reduceIte, reduceCtorEq, Nat.reduceLT, Nat.reduceEqDiff, Nat.reduceAdd, Nat.reduceMul, Nat.reduceSub, Nat.reduceLeDiff, List.reduceReplicate]
  refine callK_intro _ (validCache a (by omega) ha) (by simp; exact Cache.cl a) ?_
  have d3 : (decide (cacheF a) != decide (cacheF a)) = false := by simp
  simp only [d3, hla, hta, hoa, go_sem, ↓reduceIte, reduceCtorEq, Nat.reduceLT, Nat.reduceEqDiff, Nat.reduceAdd, Nat.reduceMul, Nat.reduceSub, Nat.reduceLeDiff, List.reduceReplicate]
  refine drawK_intro mixed (by kernel_rfl) ?_
  refine callQ_intro _ (toCache a (by omega)) (by simp; exact Cache.cl a) rfl ?_
  simp only [hla, hta, hoa, go_sem, ↓reduceIte, reduceCtorEq, Nat.reduceLT, Nat.reduceEqDiff, Nat.reduceAdd, Nat.reduceMul, Nat.reduceSub, Nat.reduceLeDiff, List.reduceReplicate]
  refine callQ_intro _ (eqCache a a ha) (by simp; exact Cache.cl a) rfl ?_
  have ea : decide (a = a) = true := by simp
  simp only [ea, go_sem, ↓reduceIte, reduceCtorEq, Nat.reduceLT, Nat.reduceEqDiff, Nat.reduceAdd, Nat.reduceMul, Nat.reduceSub, Nat.reduceLeDiff, List.reduceReplicate]
  exact Fz.bool rfl
end Go.Proofs.Ytjdeehcbhpakhaa
