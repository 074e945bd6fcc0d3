/-
  Contracts over data of the law package's sizes, copies and comparisons. No condition.
-/
import Derived.Test.YtjdeehcbhpakhaaVs
namespace Go.Proofs.Ytjdeehcbhpakhaa
open Go.Fw
open Classical
set_option maxRecDepth 100000
set_option linter.unusedSimpArgs false
set_option linter.unusedVariables false
theorem szInt64S (l : List Int) (left : Int) (h0 : 0 ≤ left) (h2 : left ≤ 1048576) (hl : l.length ≤ maxLen) : Sp Try.prog 60 [ints l, I left] (I (szF l.length left)) := by
  unfold maxLen at hl
  have ew : IntKind.i64.wrap (left - (l.length : Int)) = left - l.length := Go.IntWalk.i64_in _ (by omega)
  refine Sp.of_vc [] [.tmp 4] Try.func60 rfl (by kernel_rfl) Try.ntmps60 rfl (by simp) ?_
  simp only [go_sem, ↓reduceIte, reduceCtorEq, Nat.reduceLT, Nat.reduceEqDiff, Nat.reduceAdd, Nat.reduceMul, Nat.reduceSub, Nat.reduceLeDiff, ew]
  refine condK_split (fun h => ?_) (fun h => ?_)
  · simp only [h, go_sem, ↓reduceIte, reduceCtorEq, Nat.reduceLT, Nat.reduceEqDiff, Nat.reduceAdd, Nat.reduceMul, Nat.reduceSub, Nat.reduceLeDiff]
    refine Fz.int ?_
    simp at h; rw [szF_neg (by omega)]
  · simp only [h, go_sem, ↓reduceIte, reduceCtorEq, Nat.reduceLT, Nat.reduceEqDiff, Nat.reduceAdd, Nat.reduceMul, Nat.reduceSub, Nat.reduceLeDiff]
    refine Fz.int ?_
    simp at h; rw [szF_pos (by omega)]
theorem eqInt64S (a b : List Int) (ha : a.length ≤ maxLen) : Sp Try.prog 58 [ints a, ints b] (B (decide (a = b))) := by
  unfold maxLen at ha
  refine Sp.of_vc [] [.tmp 4] Try.func58 rfl (by kernel_rfl) Try.ntmps58 rfl (by simp) ?_
  simp only [go_sem, ↓reduceIte, reduceCtorEq, Nat.reduceLT, Nat.reduceEqDiff, Nat.reduceAdd, Nat.reduceMul, Nat.reduceSub, Nat.reduceLeDiff]
  refine condK_split (fun h => ?_) (fun h => ?_)
  · simp only [h, go_sem, ↓reduceIte, reduceCtorEq, Nat.reduceLT, Nat.reduceEqDiff, Nat.reduceAdd, Nat.reduceMul, Nat.reduceSub, Nat.reduceLeDiff]
    refine Fz.bool ?_
    simp at h ⊢
    intro e; subst e; simp at h
  · have hl : a.length = b.length := by simp at h; omega
    simp only [h, go_sem, ↓reduceIte, reduceCtorEq, Nat.reduceLT, Nat.reduceEqDiff, Nat.reduceAdd, Nat.reduceMul, Nat.reduceSub, Nat.reduceLeDiff]
    refine loop_count 5 a.length (fun k => Fw.Inv 26 [(0, ints a), (1, ints b)] (a.take k = b.take k)) rfl ⟨rfl, by simp [ints, envOf, setE], by simp⟩ ?_
    rintro k ⟨env, H, n, nt⟩ hk h5 ⟨rfl, hfs, hp⟩
    simp only [List.forall_mem_cons, ints] at h5 hfs
    obtain ⟨e0, e1, -⟩ := hfs
    simp only [h5, e0, e1, go_sem, ↓reduceIte, reduceCtorEq, Nat.reduceLT, Nat.reduceEqDiff, Nat.reduceAdd, Nat.reduceMul, Nat.reduceSub, Nat.reduceLeDiff]
    refine condK_split (fun h => ?_) (fun h => ?_)
    · have hlt : k < a.length := by simpa using h
      have g0 : (a.map fun n => [I n])[k]? = some [I a[k]] := by simp [hlt]
      have g1 : (b.map fun n => [I n])[k]? = some [I (b[k]'(by omega))] := by simp [show k < b.length by omega]
      simp only [h, h5, e0, e1, g0, g1, go_sem, ↓reduceIte, reduceCtorEq, Nat.reduceLT, Nat.reduceEqDiff, Nat.reduceAdd, Nat.reduceMul, Nat.reduceSub, Nat.reduceLeDiff]
      refine drawK_intro mixed (by kernel_rfl) ?_
      refine condK_split (fun hc => ?_) (fun hc => ?_)
      · simp only [hc, go_sem, ↓reduceIte, reduceCtorEq, Nat.reduceLT, Nat.reduceEqDiff, Nat.reduceAdd, Nat.reduceMul, Nat.reduceSub, Nat.reduceLeDiff]
        refine Fz.bool ?_
        simp at hc ⊢
        intro e; subst e; exact hc rfl
      · simp only [hc, h5, go_sem, ↓reduceIte, reduceCtorEq, Nat.reduceLT, Nat.reduceEqDiff, Nat.reduceAdd, Nat.reduceMul, Nat.reduceSub, Nat.reduceLeDiff]
        refine nextC_mk (by simp [setE, wrap_succ k (by omega)]) hlt ⟨rfl, by simp [setE, e0, e1, ints], ?_⟩
        simp at hc
        rw [List.take_succ_eq_append_getElem hlt, List.take_succ_eq_append_getElem (by omega), hp, hc]
    · have hk' : k = a.length := by simp at h; omega
      simp only [h, go_sem, ↓reduceIte, reduceCtorEq, Nat.reduceLT, Nat.reduceEqDiff, Nat.reduceAdd, Nat.reduceMul, Nat.reduceSub, Nat.reduceLeDiff]
      refine Fz.bool ?_
      rw [hk', List.take_length, hl, List.take_length] at hp
      simp [hp]
theorem toInt64S (l : List Int) (hl : l.length ≤ 1048576) : Sp Try.prog 62 [ints l] (ints l) := by
  refine Sp.of_vc [] [.tmp 2] Try.func62 rfl (by kernel_rfl) Try.ntmps62 rfl (by simp) ?_
  simp only [go_sem, ↓reduceIte, reduceCtorEq, Nat.reduceLT, Nat.reduceEqDiff, Nat.reduceAdd, Nat.reduceMul, Nat.reduceSub, Nat.reduceLeDiff]
  refine ⟨⟨by omega, by omega⟩, ?_⟩
  refine loop_count 4 l.length (fun k => Fw.InvH 22 [(0, ints l), (3, .ms 7 0 l.length)] fun H _ n => n = 1 ∧ H 7 = some ⟨0, 2, 1, ((l.take k).map (fun n => [I n]) ++ List.replicate (l.length - k) [D.sc (.int .i64 0)]).flatten⟩) rfl ⟨rfl, by simp [ints, envOf, setE], rfl, by simp [upd]⟩ ?_
  rintro k ⟨env, H, n, nt⟩ hk h5 ⟨rfl, hfs, hn, hH⟩
  simp only [List.forall_mem_cons, ints] at h5 hfs hH
  simp only at hn; subst hn
  obtain ⟨e0, e1, -⟩ := hfs
  simp only [h5, e0, e1, go_sem, ↓reduceIte, reduceCtorEq, Nat.reduceLT, Nat.reduceEqDiff, Nat.reduceAdd, Nat.reduceMul, Nat.reduceSub, Nat.reduceLeDiff]
  refine condK_split (fun h => ?_) (fun h => ?_)
  · have hlt : k < l.length := by simpa using h
    have g0 : (l.map fun n => [I n])[k]? = some [I l[k]] := by simp [hlt]
    have hkl : ((k : Int) < (l.length : Int)) = True := eq_true (by omega)
    simp only [h, h5, e0, e1, g0, hH, hkl, go_sem, ↓reduceIte, reduceCtorEq, Nat.reduceLT, Nat.reduceEqDiff, Nat.reduceAdd, Nat.reduceMul, Nat.reduceSub, Nat.reduceLeDiff]
    have hz : ([D.sc (.int .i64 0)] : List D).length = 1 := rfl
    have hfl := flatten_len (sz := 1) (rows := (l.take k).map (fun n => [I n]) ++ List.replicate (l.length - k) [D.sc (.int .i64 0)]) (by
      intro r hr; rcases List.mem_append.1 hr with hr | hr
      · obtain ⟨x, _, rfl⟩ := List.mem_map.1 hr; rfl
      · rw [List.eq_of_mem_replicate hr]; exact hz)
    simp only [List.length_append, List.length_map, List.length_take, List.length_replicate] at hfl
    refine ⟨by rw [hfl]; omega, ?_⟩
    refine nextC_mk (by simp [setE, wrap_succ k (by omega)]) hlt ⟨rfl, by simp [setE, e0, e1, ints], rfl, ?_⟩
    simp only [upd, ↓reduceIte, Option.some.injEq, Ob.mk.injEq, true_and]
    rw [replicate_split _ hlt, put_rows ((l.take k).map fun n => [I n]) (sz := 1) (by intro r hr; obtain ⟨x, _, rfl⟩ := List.mem_map.1 hr; rfl) (by simp; omega) hz rfl rfl, List.take_succ_eq_append_getElem hlt, List.map_append, List.map_cons, List.map_nil, List.append_assoc]
    rfl
  · have hk' : k = l.length := by simp at h; omega
    subst hk'
    simp only [h, e1, go_sem, ↓reduceIte, reduceCtorEq, Nat.reduceLT, Nat.reduceEqDiff, Nat.reduceAdd, Nat.reduceMul, Nat.reduceSub, Nat.reduceLeDiff]
    refine Fz.rows hH rfl rfl (by decide) (by simp) (by intro r hr; obtain ⟨x, _, rfl⟩ := List.mem_map.1 hr; rfl) (by simp) (by simp)
theorem szCoreS (l : List Core) (left : Int) (h0 : 0 ≤ left) (h2 : left ≤ 1048576) (hl : l.length ≤ maxLen)
    (hel : ∀ x ∈ l, ∀ left : Int, 0 ≤ left → left ≤ 1048576 → Sp Try.prog 59 [.ag x.ds, I left] (I (szF x.sz left))) : Sp Try.prog 73 [Core.sl l, I left] (I (szF (l.length + Core.szS l) left)) := by
  unfold maxLen at hl
  have ew : IntKind.i64.wrap (left - (l.length : Int)) = left - l.length := Go.IntWalk.i64_in _ (by omega)
  have hdl : (Core.dsL l).length = l.length := Core.dsL_len l
  refine Sp.of_vc [] [.tmp 4] Try.func73 rfl (by kernel_rfl) Try.ntmps73 rfl (by simp) ?_
  simp only [go_sem, ↓reduceIte, reduceCtorEq, Nat.reduceLT, Nat.reduceEqDiff, Nat.reduceAdd, Nat.reduceMul, Nat.reduceSub, Nat.reduceLeDiff, hdl, ew]
  refine condK_split (fun h => ?_) (fun h => ?_)
  · simp only [h, go_sem, ↓reduceIte, reduceCtorEq, Nat.reduceLT, Nat.reduceEqDiff, Nat.reduceAdd, Nat.reduceMul, Nat.reduceSub, Nat.reduceLeDiff]
    refine Fz.int ?_
    simp at h; rw [szF_neg (by omega)]
  · have hle : (l.length : Int) ≤ left := by simp at h; omega
    simp only [h, go_sem, ↓reduceIte, reduceCtorEq, Nat.reduceLT, Nat.reduceEqDiff, Nat.reduceAdd, Nat.reduceMul, Nat.reduceSub, Nat.reduceLeDiff]
    refine loop_count 5 l.length (fun k => Fw.Inv 27 [(0, Core.sl l), (1, I (left - l.length - Core.szS (l.take k)))] ((l.length : Int) + Core.szS (l.take k) ≤ left)) rfl ⟨rfl, by simp [Core.sl, envOf, setE, Core.szS_eq], by simp [Core.szS_eq]; omega⟩ ?_
    rintro k ⟨env, H, n, nt⟩ hk h5 ⟨rfl, hfs, hp⟩
    simp only [List.forall_mem_cons, Core.sl] at h5 hfs
    obtain ⟨e0, e1, -⟩ := hfs
    simp only [h5, e0, e1, hdl, go_sem, ↓reduceIte, reduceCtorEq, Nat.reduceLT, Nat.reduceEqDiff, Nat.reduceAdd, Nat.reduceMul, Nat.reduceSub, Nat.reduceLeDiff]
    refine condK_split (fun h => ?_) (fun h => ?_)
    · have hlt : k < l.length := by simpa using h
      have g0 := Core.dsL_get l k hlt
      have hds := Core.ds_len l[k]
      have htk : List.take 4 l[k].ds = l[k].ds := List.take_of_length_le (by omega)
      have hst := Core.szS_take l k hlt
      have hsl := Core.szS_le l (k + 1)
      simp only [h, h5, e0, e1, g0, hds, htk, hdl, go_sem, ↓reduceIte, reduceCtorEq, Nat.reduceLT, Nat.reduceEqDiff, Nat.reduceAdd, Nat.reduceMul, Nat.reduceSub, Nat.reduceLeDiff]
      refine callK_intro _ (hel l[k] (List.getElem_mem hlt) _ (by omega) (by omega)) (by simp; exact Core.cl _) ?_
      by_cases hc : (l[k].sz : Int) ≤ left - l.length - Core.szS (l.take k)
      · have ec : decide (left - (l.length : Int) - Core.szS (l.take k) - (l[k].sz : Int) < 0) = false := by simp; omega
        simp only [szF_pos hc, ec, h5, go_sem, ↓reduceIte, reduceCtorEq, Nat.reduceLT, Nat.reduceEqDiff, Nat.reduceAdd, Nat.reduceMul, Nat.reduceSub, Nat.reduceLeDiff]
        refine nextC_mk (by simp [setE, wrap_succ k (by omega)]) hlt ⟨rfl, ?_, by omega⟩
        simp only [List.forall_mem_cons, setE, ↓reduceIte, Nat.reduceEqDiff, e0, Core.sl, List.not_mem_nil, false_implies, implies_true, and_true, true_and]
        rw [hst]; exact congrArg (fun n => D.sc (.int .i64 n)) (by omega)
      · simp only [szF_neg hc, Int.reduceNeg, Int.reduceLT, go_sem, ↓reduceIte, reduceCtorEq, Nat.reduceLT, Nat.reduceEqDiff, Nat.reduceAdd, Nat.reduceMul, Nat.reduceSub, Nat.reduceLeDiff]
        refine Fz.int ?_
        rw [szF_neg (by omega)]
    · have hk' : k = l.length := by simp at h; omega
      subst hk'
      simp only [h, e1, go_sem, ↓reduceIte, reduceCtorEq, Nat.reduceLT, Nat.reduceEqDiff, Nat.reduceAdd, Nat.reduceMul, Nat.reduceSub, Nat.reduceLeDiff]
      refine Fz.int ?_
      rw [List.take_length] at hp ⊢
      rw [szF_pos (by omega)]; omega
theorem eqCoreS (a b : List Core) (ha : a.length ≤ maxLen) (hel : ∀ x ∈ a, ∀ y, Sp Try.prog 57 [.ag x.ds, .ag y.ds] (B (decide (x = y)))) : Sp Try.prog 72 [Core.sl a, Core.sl b] (B (decide (a = b))) := by
  unfold maxLen at ha
  have hda : (Core.dsL a).length = a.length := Core.dsL_len a
  have hdb : (Core.dsL b).length = b.length := Core.dsL_len b
  refine Sp.of_vc [] [.tmp 4] Try.func72 rfl (by kernel_rfl) Try.ntmps72 rfl (by simp) ?_
  simp only [go_sem, ↓reduceIte, reduceCtorEq, Nat.reduceLT, Nat.reduceEqDiff, Nat.reduceAdd, Nat.reduceMul, Nat.reduceSub, Nat.reduceLeDiff, hda, hdb]
  refine condK_split (fun h => ?_) (fun h => ?_)
  · simp only [h, go_sem, ↓reduceIte, reduceCtorEq, Nat.reduceLT, Nat.reduceEqDiff, Nat.reduceAdd, Nat.reduceMul, Nat.reduceSub, Nat.reduceLeDiff]
    refine Fz.bool ?_
    simp at h ⊢
    intro e; subst e; simp at h
  · have hl : a.length = b.length := by simp at h; omega
    simp only [h, go_sem, ↓reduceIte, reduceCtorEq, Nat.reduceLT, Nat.reduceEqDiff, Nat.reduceAdd, Nat.reduceMul, Nat.reduceSub, Nat.reduceLeDiff]
    refine loop_count 5 a.length (fun k => Fw.Inv 27 [(0, Core.sl a), (1, Core.sl b)] (a.take k = b.take k)) rfl ⟨rfl, by simp [Core.sl, envOf, setE], by simp⟩ ?_
    rintro k ⟨env, H, n, nt⟩ hk h5 ⟨rfl, hfs, hp⟩
    simp only [List.forall_mem_cons, Core.sl] at h5 hfs
    obtain ⟨e0, e1, -⟩ := hfs
    simp only [h5, e0, e1, hda, go_sem, ↓reduceIte, reduceCtorEq, Nat.reduceLT, Nat.reduceEqDiff, Nat.reduceAdd, Nat.reduceMul, Nat.reduceSub, Nat.reduceLeDiff]
    refine condK_split (fun h => ?_) (fun h => ?_)
    · have hlt : k < a.length := by simpa using h
      have hlb : k < b.length := by omega
      have g0 := Core.dsL_get a k hlt
      have g1 := Core.dsL_get b k hlb
      have hd0 := Core.ds_len a[k]
      have hd1 := Core.ds_len b[k]
      have ht0 : List.take 4 a[k].ds = a[k].ds := List.take_of_length_le (by omega)
      have ht1 : List.take 4 b[k].ds = b[k].ds := List.take_of_length_le (by omega)
      simp only [h, h5, e0, e1, g0, g1, hd0, hd1, ht0, ht1, go_sem, ↓reduceIte, reduceCtorEq, Nat.reduceLT, Nat.reduceEqDiff, Nat.reduceAdd, Nat.reduceMul, Nat.reduceSub, Nat.reduceLeDiff]
      refine drawK_intro mixed (by kernel_rfl) ?_
      refine callQ_intro _ (hel a[k] (List.getElem_mem hlt) b[k]) (by simp; exact ⟨Core.cl _, Core.cl _⟩) rfl ?_
      by_cases hc : a[k] = b[k]
      · have ec : decide (a[k] = b[k]) = true := by simp [hc]
        simp only [ec, h5, go_sem, ↓reduceIte, reduceCtorEq, Nat.reduceLT, Nat.reduceEqDiff, Nat.reduceAdd, Nat.reduceMul, Nat.reduceSub, Nat.reduceLeDiff]
        refine nextC_mk (by simp [setE, wrap_succ k (by omega)]) hlt ⟨rfl, by simp [setE, e0, e1, Core.sl], ?_⟩
        rw [List.take_succ_eq_append_getElem hlt, List.take_succ_eq_append_getElem hlb, hp, hc]
      · have ec : decide (a[k] = b[k]) = false := by simp [hc]
        simp only [ec, go_sem, ↓reduceIte, reduceCtorEq, Nat.reduceLT, Nat.reduceEqDiff, Nat.reduceAdd, Nat.reduceMul, Nat.reduceSub, Nat.reduceLeDiff]
        refine Fz.bool ?_
        simp
        intro e; subst e; exact hc rfl
    · have hk' : k = a.length := by simp at h; omega
      simp only [h, go_sem, ↓reduceIte, reduceCtorEq, Nat.reduceLT, Nat.reduceEqDiff, Nat.reduceAdd, Nat.reduceMul, Nat.reduceSub, Nat.reduceLeDiff]
      refine Fz.bool ?_
      rw [hk', List.take_length, hl, List.take_length] at hp
      simp [hp]
theorem toCoreS (l : List Core) (hl : l.length ≤ 1048576) (hel : ∀ x ∈ l, Sp Try.prog 61 [.ag x.ds] (.ag x.ds)) : Sp Try.prog 74 [Core.sl l] (Core.sl l) := by
  have hdl : (Core.dsL l).length = l.length := Core.dsL_len l
  refine Sp.of_vc [] [.tmp 2] Try.func74 rfl (by kernel_rfl) Try.ntmps74 rfl (by simp) ?_
  simp only [go_sem, ↓reduceIte, reduceCtorEq, Nat.reduceLT, Nat.reduceEqDiff, Nat.reduceAdd, Nat.reduceMul, Nat.reduceSub, Nat.reduceLeDiff, hdl]
  refine ⟨⟨by omega, by omega⟩, ?_⟩
  refine loop_count 4 l.length (fun k => Fw.InvH 23 [(0, Core.sl l), (3, .ms 7 0 l.length)] fun H _ n => n = 1 ∧ H 7 = some ⟨0, 47, 4, (Core.dsL (l.take k) ++ List.replicate (l.length - k) [D.sc (.int .i64 0), D.sc (.int .i64 0), D.sc (.slice none 0 0), D.sc (.slice none 0 0)]).flatten⟩) rfl ⟨rfl, by simp [Core.sl, envOf, setE], rfl, by simp [upd, Core.dsL_eq]⟩ ?_
  rintro k ⟨env, H, n, nt⟩ hk h5 ⟨rfl, hfs, hn, hH⟩
  simp only [List.forall_mem_cons, Core.sl] at h5 hfs hH
  simp only at hn; subst hn
  obtain ⟨e0, e1, -⟩ := hfs
  simp only [h5, e0, e1, hdl, go_sem, ↓reduceIte, reduceCtorEq, Nat.reduceLT, Nat.reduceEqDiff, Nat.reduceAdd, Nat.reduceMul, Nat.reduceSub, Nat.reduceLeDiff]
  refine condK_split (fun h => ?_) (fun h => ?_)
  · have hlt : k < l.length := by simpa using h
    have g0 := Core.dsL_get l k hlt
    have hds := Core.ds_len l[k]
    have htk : List.take 4 l[k].ds = l[k].ds := List.take_of_length_le (by omega)
    have hkl : ((k : Int) < (l.length : Int)) = True := eq_true (by omega)
    simp only [h, h5, e0, e1, g0, hds, htk, hkl, go_sem, ↓reduceIte, reduceCtorEq, Nat.reduceLT, Nat.reduceEqDiff, Nat.reduceAdd, Nat.reduceMul, Nat.reduceSub, Nat.reduceLeDiff]
    refine callK_intro _ (hel l[k] (List.getElem_mem hlt)) (by simp; exact Core.cl _) ?_
    simp only [h5, e0, e1, hds, htk, hH, hkl, go_sem, ↓reduceIte, reduceCtorEq, Nat.reduceLT, Nat.reduceEqDiff, Nat.reduceAdd, Nat.reduceMul, Nat.reduceSub, Nat.reduceLeDiff]
    have hz : ([D.sc (.int .i64 0), D.sc (.int .i64 0), D.sc (.slice none 0 0), D.sc (.slice none 0 0)] : List D).length = 4 := rfl
    have hfl := flatten_len (sz := 4) (rows := Core.dsL (l.take k) ++ List.replicate (l.length - k) [D.sc (.int .i64 0), D.sc (.int .i64 0), D.sc (.slice none 0 0), D.sc (.slice none 0 0)]) (by
      intro r hr; rcases List.mem_append.1 hr with hr | hr
      · exact Core.rows_len _ r hr
      · rw [List.eq_of_mem_replicate hr]; exact hz)
    simp only [List.length_append, Core.dsL_len, List.length_take, List.length_replicate] at hfl
    refine ⟨⟨by rw [hfl]; omega, by rw [List.all_eq_true]; exact Core.one l[k]⟩, ?_⟩
    refine nextC_mk (by simp [setE, wrap_succ k (by omega)]) hlt ⟨rfl, by simp [setE, e0, e1, Core.sl], rfl, ?_⟩
    simp only [upd, ↓reduceIte, Option.some.injEq, Ob.mk.injEq, true_and]
    rw [replicate_split _ hlt, put_rows (Core.dsL (l.take k)) (sz := 4) (Core.rows_len _) (by rw [Core.dsL_len]; simp; omega) hz hds rfl, Core.dsL_eq, Core.dsL_eq, List.take_succ_eq_append_getElem hlt, List.map_append, List.map_cons, List.map_nil, List.append_assoc]
    rfl
  · have hk' : k = l.length := by simp at h; omega
    subst hk'
    simp only [h, e1, go_sem, ↓reduceIte, reduceCtorEq, Nat.reduceLT, Nat.reduceEqDiff, Nat.reduceAdd, Nat.reduceMul, Nat.reduceSub, Nat.reduceLeDiff]
    refine Fz.rows hH rfl rfl (by decide) hdl.symm (Core.rows_len l) (by simp) (Core.clL l)
theorem szCore (a : Core) (left : Int) (h0 : 0 ≤ left) (h2 : left ≤ 1048576) (ha : a.ok) : Sp Try.prog 59 [.ag a.ds, I left] (I (szF a.sz left)) := by
  match a, ha with
  | .mk a0 a1 a2 a3, ha =>
  simp only [Core.ok] at ha
  obtain ⟨o2, o3, p3⟩ := ha
  rw [Core.sz]
  refine Sp.of_vc [] [.tmp 4] Try.func59 rfl (by kernel_rfl) Try.ntmps59 rfl (by simp) ?_
  simp only [Core.ds, go_sem, ↓reduceIte, reduceCtorEq, Nat.reduceLT, Nat.reduceEqDiff, Nat.reduceAdd, Nat.reduceMul, Nat.reduceSub, Nat.reduceLeDiff]
  refine callK_intro _ (szInt64S a2 _ (by omega) (by omega) o2) (by simp only [List.nil_append, List.append_nil, List.forall_mem_cons]; exact ⟨cl_ints a2, by simp⟩) ?_
  by_cases c2 : ((a2.length : Nat) : Int) ≤ left
  case neg =>
    simp only [szF_neg c2, Int.reduceNeg, Int.reduceLT, go_sem, ↓reduceIte, reduceCtorEq, Nat.reduceLT, Nat.reduceEqDiff, Nat.reduceAdd, Nat.reduceMul, Nat.reduceSub, Nat.reduceLeDiff]
    refine Fz.int ?_
    first | rfl | rw [szF_neg (by omega)]
  have f2 : decide (left - ((a2.length : Nat) : Int) < 0) = false := by simp only [decide_eq_false_iff_not]; omega
  simp only [szF_pos c2, f2, go_sem, ↓reduceIte, reduceCtorEq, Nat.reduceLT, Nat.reduceEqDiff, Nat.reduceAdd, Nat.reduceMul, Nat.reduceSub, Nat.reduceLeDiff]
  refine callK_intro _ (szCoreS a3 _ (by omega) (by omega) o3 (fun x hx left g0 g2 => szCore x left g0 g2 (Core.okS_mem p3 x hx))) (by simp only [List.nil_append, List.append_nil, List.forall_mem_cons]; exact ⟨Core.cl_sl a3, by simp⟩) ?_
  by_cases c3 : (((a3.length + Core.szS a3) : Nat) : Int) ≤ left - ((a2.length : Nat) : Int)
  case neg =>
    simp only [szF_neg c3, Int.reduceNeg, Int.reduceLT, go_sem, ↓reduceIte, reduceCtorEq, Nat.reduceLT, Nat.reduceEqDiff, Nat.reduceAdd, Nat.reduceMul, Nat.reduceSub, Nat.reduceLeDiff]
    refine Fz.int ?_
    first | rfl | rw [szF_neg (by omega)]
  have f3 : decide (left - ((a2.length : Nat) : Int) - (((a3.length + Core.szS a3) : Nat) : Int) < 0) = false := by simp only [decide_eq_false_iff_not]; omega
  simp only [szF_pos c3, f3, go_sem, ↓reduceIte, reduceCtorEq, Nat.reduceLT, Nat.reduceEqDiff, Nat.reduceAdd, Nat.reduceMul, Nat.reduceSub, Nat.reduceLeDiff]
  refine Fz.int ?_
  first | rfl | (rw [szF_pos (by omega)]; omega)
termination_by a
decreasing_by all_goals (have := List.sizeOf_lt_of_mem hx; simp; omega)
theorem eqCore (a b : Core) (ha : a.ok) : Sp Try.prog 57 [.ag a.ds, .ag b.ds] (B (decide (a = b))) := by
  match a, b, ha with
  | .mk a0 a1 a2 a3, .mk b0 b1 b2 b3, ha =>
  simp only [Core.ok] at ha
  obtain ⟨o2, o3, p3⟩ := ha
  refine Sp.of_vc [] [.tmp 4] Try.func57 rfl (by kernel_rfl) Try.ntmps57 rfl (by simp) ?_
  simp only [Core.ds, go_sem, ↓reduceIte, reduceCtorEq, Nat.reduceLT, Nat.reduceEqDiff, Nat.reduceAdd, Nat.reduceMul, Nat.reduceSub, Nat.reduceLeDiff]
  by_cases c0 : a0 = b0
  case neg =>
    have f0 : (a0 != b0) = true := by simp [c0]
    simp only [f0, go_sem, ↓reduceIte, reduceCtorEq, Nat.reduceLT, Nat.reduceEqDiff, Nat.reduceAdd, Nat.reduceMul, Nat.reduceSub, Nat.reduceLeDiff]
    exact Fz.bool (by simp [c0])
  have f0 : (a0 != b0) = false := by simp [c0]
  simp only [f0, go_sem, ↓reduceIte, reduceCtorEq, Nat.reduceLT, Nat.reduceEqDiff, Nat.reduceAdd, Nat.reduceMul, Nat.reduceSub, Nat.reduceLeDiff]
  by_cases c1 : a1 = b1
  case neg =>
    have f1 : (a1 != b1) = true := by simp [c1]
    simp only [f1, go_sem, ↓reduceIte, reduceCtorEq, Nat.reduceLT, Nat.reduceEqDiff, Nat.reduceAdd, Nat.reduceMul, Nat.reduceSub, Nat.reduceLeDiff]
    exact Fz.bool (by simp [c1])
  have f1 : (a1 != b1) = false := by simp [c1]
  simp only [f1, go_sem, ↓reduceIte, reduceCtorEq, Nat.reduceLT, Nat.reduceEqDiff, Nat.reduceAdd, Nat.reduceMul, Nat.reduceSub, Nat.reduceLeDiff]
  refine callK_intro _ (eqInt64S _ _ o2) (by simp only [List.nil_append, List.append_nil, List.forall_mem_cons]; exact ⟨cl_ints a2, cl_ints b2, by simp⟩) ?_
  by_cases c2 : a2 = b2
  case neg =>
    have f2 : decide (a2 = b2) = false := by simp [c2]
    simp only [f2, go_sem, ↓reduceIte, reduceCtorEq, Nat.reduceLT, Nat.reduceEqDiff, Nat.reduceAdd, Nat.reduceMul, Nat.reduceSub, Nat.reduceLeDiff]
    refine Fz.bool ?_
    symm; rw [decide_eq_false_iff_not]; intro e; apply c2; injection e
  have f2 : decide (a2 = b2) = true := by rw [decide_eq_true_eq]; exact c2
  simp only [f2, go_sem, ↓reduceIte, reduceCtorEq, Nat.reduceLT, Nat.reduceEqDiff, Nat.reduceAdd, Nat.reduceMul, Nat.reduceSub, Nat.reduceLeDiff]
  refine callK_intro _ (eqCoreS _ _ o3 (fun x hx y => eqCore x y (Core.okS_mem p3 x hx))) (by simp only [List.nil_append, List.append_nil, List.forall_mem_cons]; exact ⟨Core.cl_sl a3, Core.cl_sl b3, by simp⟩) ?_
  by_cases c3 : a3 = b3
  case neg =>
    have f3 : decide (a3 = b3) = false := by simp [c3]
    simp only [f3, go_sem, ↓reduceIte, reduceCtorEq, Nat.reduceLT, Nat.reduceEqDiff, Nat.reduceAdd, Nat.reduceMul, Nat.reduceSub, Nat.reduceLeDiff]
    refine Fz.bool ?_
    symm; rw [decide_eq_false_iff_not]; intro e; apply c3; injection e
  have f3 : decide (a3 = b3) = true := by rw [decide_eq_true_eq]; exact c3
  simp only [f3, go_sem, ↓reduceIte, reduceCtorEq, Nat.reduceLT, Nat.reduceEqDiff, Nat.reduceAdd, Nat.reduceMul, Nat.reduceSub, Nat.reduceLeDiff]
  refine Fz.bool ?_
  symm; rw [decide_eq_true_eq, c0, c1, c2, c3]
termination_by a
decreasing_by all_goals (have := List.sizeOf_lt_of_mem hx; simp; omega)
theorem toCore (a : Core) (ha : a.sz ≤ 1048576) : Sp Try.prog 61 [.ag a.ds] (.ag a.ds) := by
  match a, ha with
  | .mk a0 a1 a2 a3, ha =>
  rw [Core.sz] at ha
  refine Sp.of_vc [] [.cell 2 47] Try.func61 rfl (by kernel_rfl) Try.ntmps61 rfl (by simp) ?_
  simp only [Core.ds, go_sem, ↓reduceIte, reduceCtorEq, Nat.reduceLT, Nat.reduceEqDiff, Nat.reduceAdd, Nat.reduceMul, Nat.reduceSub, Nat.reduceLeDiff]
  refine callK_intro _ (toInt64S a2 (by omega)) (by simp only [List.nil_append, List.append_nil, List.forall_mem_cons]; exact ⟨cl_ints a2, by simp⟩) ?_
  simp only [Core.ds, go_sem, ↓reduceIte, reduceCtorEq, Nat.reduceLT, Nat.reduceEqDiff, Nat.reduceAdd, Nat.reduceMul, Nat.reduceSub, Nat.reduceLeDiff]
  refine callK_intro _ (toCoreS a3 (by omega) (fun x hx => toCore x (by have := Core.sz_mem hx; omega))) (by simp only [List.nil_append, List.append_nil, List.forall_mem_cons]; exact ⟨Core.cl_sl a3, by simp⟩) ?_
  simp only [Core.ds, go_sem, ↓reduceIte, reduceCtorEq, Nat.reduceLT, Nat.reduceEqDiff, Nat.reduceAdd, Nat.reduceMul, Nat.reduceSub, Nat.reduceLeDiff]
  exact Fz.same (by simp [Core.ds]) (Cl.ag' (Core.cl (.mk a0 a1 a2 a3)))
termination_by a
decreasing_by all_goals (have := List.sizeOf_lt_of_mem hx; simp; omega)
theorem szCacheEntryS (l : List CacheEntry) (left : Int) (h0 : 0 ≤ left) (h2 : left ≤ 1048576) (hl : l.length ≤ maxLen)
    (hel : ∀ x ∈ l, ∀ left : Int, 0 ≤ left → left ≤ 1048576 → Sp Try.prog 40 [.ag x.ds, I left] (I (szF x.sz left))) : Sp Try.prog 22 [CacheEntry.sl l, I left] (I (szF (l.length + CacheEntry.szS l) left)) := by
  unfold maxLen at hl
  have ew : IntKind.i64.wrap (left - (l.length : Int)) = left - l.length := Go.IntWalk.i64_in _ (by omega)
  have hdl : (CacheEntry.dsL l).length = l.length := CacheEntry.dsL_len l
  refine Sp.of_vc [] [.tmp 4] Try.func22 rfl (by kernel_rfl) Try.ntmps22 rfl (by simp) ?_
  simp only [go_sem, ↓reduceIte, reduceCtorEq, Nat.reduceLT, Nat.reduceEqDiff, Nat.reduceAdd, Nat.reduceMul, Nat.reduceSub, Nat.reduceLeDiff, hdl, ew]
  refine condK_split (fun h => ?_) (fun h => ?_)
  · simp only [h, go_sem, ↓reduceIte, reduceCtorEq, Nat.reduceLT, Nat.reduceEqDiff, Nat.reduceAdd, Nat.reduceMul, Nat.reduceSub, Nat.reduceLeDiff]
    refine Fz.int ?_
    simp at h; rw [szF_neg (by omega)]
  · have hle : (l.length : Int) ≤ left := by simp at h; omega
    simp only [h, go_sem, ↓reduceIte, reduceCtorEq, Nat.reduceLT, Nat.reduceEqDiff, Nat.reduceAdd, Nat.reduceMul, Nat.reduceSub, Nat.reduceLeDiff]
    refine loop_count 5 l.length (fun k => Fw.Inv 27 [(0, CacheEntry.sl l), (1, I (left - l.length - CacheEntry.szS (l.take k)))] ((l.length : Int) + CacheEntry.szS (l.take k) ≤ left)) rfl ⟨rfl, by simp [CacheEntry.sl, envOf, setE, CacheEntry.szS_eq], by simp [CacheEntry.szS_eq]; omega⟩ ?_
    rintro k ⟨env, H, n, nt⟩ hk h5 ⟨rfl, hfs, hp⟩
    simp only [List.forall_mem_cons, CacheEntry.sl] at h5 hfs
    obtain ⟨e0, e1, -⟩ := hfs
    simp only [h5, e0, e1, hdl, go_sem, ↓reduceIte, reduceCtorEq, Nat.reduceLT, Nat.reduceEqDiff, Nat.reduceAdd, Nat.reduceMul, Nat.reduceSub, Nat.reduceLeDiff]
    refine condK_split (fun h => ?_) (fun h => ?_)
    · have hlt : k < l.length := by simpa using h
      have g0 := CacheEntry.dsL_get l k hlt
      have hds := CacheEntry.ds_len l[k]
      have htk : List.take 7 l[k].ds = l[k].ds := List.take_of_length_le (by omega)
      have hst := CacheEntry.szS_take l k hlt
      have hsl := CacheEntry.szS_le l (k + 1)
      simp only [h, h5, e0, e1, g0, hds, htk, hdl, go_sem, ↓reduceIte, reduceCtorEq, Nat.reduceLT, Nat.reduceEqDiff, Nat.reduceAdd, Nat.reduceMul, Nat.reduceSub, Nat.reduceLeDiff]
      refine callK_intro _ (hel l[k] (List.getElem_mem hlt) _ (by omega) (by omega)) (by simp; exact CacheEntry.cl _) ?_
      by_cases hc : (l[k].sz : Int) ≤ left - l.length - CacheEntry.szS (l.take k)
      · have ec : decide (left - (l.length : Int) - CacheEntry.szS (l.take k) - (l[k].sz : Int) < 0) = false := by simp; omega
        simp only [szF_pos hc, ec, h5, go_sem, ↓reduceIte, reduceCtorEq, Nat.reduceLT, Nat.reduceEqDiff, Nat.reduceAdd, Nat.reduceMul, Nat.reduceSub, Nat.reduceLeDiff]
        refine nextC_mk (by simp [setE, wrap_succ k (by omega)]) hlt ⟨rfl, ?_, by omega⟩
        simp only [List.forall_mem_cons, setE, ↓reduceIte, Nat.reduceEqDiff, e0, CacheEntry.sl, List.not_mem_nil, false_implies, implies_true, and_true, true_and]
        rw [hst]; exact congrArg (fun n => D.sc (.int .i64 n)) (by omega)
      · simp only [szF_neg hc, Int.reduceNeg, Int.reduceLT, go_sem, ↓reduceIte, reduceCtorEq, Nat.reduceLT, Nat.reduceEqDiff, Nat.reduceAdd, Nat.reduceMul, Nat.reduceSub, Nat.reduceLeDiff]
        refine Fz.int ?_
        rw [szF_neg (by omega)]
    · have hk' : k = l.length := by simp at h; omega
      subst hk'
      simp only [h, e1, go_sem, ↓reduceIte, reduceCtorEq, Nat.reduceLT, Nat.reduceEqDiff, Nat.reduceAdd, Nat.reduceMul, Nat.reduceSub, Nat.reduceLeDiff]
      refine Fz.int ?_
      rw [List.take_length] at hp ⊢
      rw [szF_pos (by omega)]; omega
theorem eqCacheEntryS (a b : List CacheEntry) (ha : a.length ≤ maxLen) (hel : ∀ x ∈ a, ∀ y, Sp Try.prog 34 [.ag x.ds, .ag y.ds] (B (decide (x = y)))) : Sp Try.prog 19 [CacheEntry.sl a, CacheEntry.sl b] (B (decide (a = b))) := by
  unfold maxLen at ha
  have hda : (CacheEntry.dsL a).length = a.length := CacheEntry.dsL_len a
  have hdb : (CacheEntry.dsL b).length = b.length := CacheEntry.dsL_len b
  refine Sp.of_vc [] [.tmp 4] Try.func19 rfl (by kernel_rfl) Try.ntmps19 rfl (by simp) ?_
  simp only [go_sem, ↓reduceIte, reduceCtorEq, Nat.reduceLT, Nat.reduceEqDiff, Nat.reduceAdd, Nat.reduceMul, Nat.reduceSub, Nat.reduceLeDiff, hda, hdb]
  refine condK_split (fun h => ?_) (fun h => ?_)
  · simp only [h, go_sem, ↓reduceIte, reduceCtorEq, Nat.reduceLT, Nat.reduceEqDiff, Nat.reduceAdd, Nat.reduceMul, Nat.reduceSub, Nat.reduceLeDiff]
    refine Fz.bool ?_
    simp at h ⊢
    intro e; subst e; simp at h
  · have hl : a.length = b.length := by simp at h; omega
    simp only [h, go_sem, ↓reduceIte, reduceCtorEq, Nat.reduceLT, Nat.reduceEqDiff, Nat.reduceAdd, Nat.reduceMul, Nat.reduceSub, Nat.reduceLeDiff]
    refine loop_count 5 a.length (fun k => Fw.Inv 27 [(0, CacheEntry.sl a), (1, CacheEntry.sl b)] (a.take k = b.take k)) rfl ⟨rfl, by simp [CacheEntry.sl, envOf, setE], by simp⟩ ?_
    rintro k ⟨env, H, n, nt⟩ hk h5 ⟨rfl, hfs, hp⟩
    simp only [List.forall_mem_cons, CacheEntry.sl] at h5 hfs
    obtain ⟨e0, e1, -⟩ := hfs
    simp only [h5, e0, e1, hda, go_sem, ↓reduceIte, reduceCtorEq, Nat.reduceLT, Nat.reduceEqDiff, Nat.reduceAdd, Nat.reduceMul, Nat.reduceSub, Nat.reduceLeDiff]
    refine condK_split (fun h => ?_) (fun h => ?_)
    · have hlt : k < a.length := by simpa using h
      have hlb : k < b.length := by omega
      have g0 := CacheEntry.dsL_get a k hlt
      have g1 := CacheEntry.dsL_get b k hlb
      have hd0 := CacheEntry.ds_len a[k]
      have hd1 := CacheEntry.ds_len b[k]
      have ht0 : List.take 7 a[k].ds = a[k].ds := List.take_of_length_le (by omega)
      have ht1 : List.take 7 b[k].ds = b[k].ds := List.take_of_length_le (by omega)
      simp only [h, h5, e0, e1, g0, g1, hd0, hd1, ht0, ht1, go_sem, ↓reduceIte, reduceCtorEq, Nat.reduceLT, Nat.reduceEqDiff, Nat.reduceAdd, Nat.reduceMul, Nat.reduceSub, Nat.reduceLeDiff]
      refine drawK_intro mixed (by kernel_rfl) ?_
      refine callQ_intro _ (hel a[k] (List.getElem_mem hlt) b[k]) (by simp; exact ⟨CacheEntry.cl _, CacheEntry.cl _⟩) rfl ?_
      by_cases hc : a[k] = b[k]
      · have ec : decide (a[k] = b[k]) = true := by simp [hc]
        simp only [ec, h5, go_sem, ↓reduceIte, reduceCtorEq, Nat.reduceLT, Nat.reduceEqDiff, Nat.reduceAdd, Nat.reduceMul, Nat.reduceSub, Nat.reduceLeDiff]
        refine nextC_mk (by simp [setE, wrap_succ k (by omega)]) hlt ⟨rfl, by simp [setE, e0, e1, CacheEntry.sl], ?_⟩
        rw [List.take_succ_eq_append_getElem hlt, List.take_succ_eq_append_getElem hlb, hp, hc]
      · have ec : decide (a[k] = b[k]) = false := by simp [hc]
        simp only [ec, go_sem, ↓reduceIte, reduceCtorEq, Nat.reduceLT, Nat.reduceEqDiff, Nat.reduceAdd, Nat.reduceMul, Nat.reduceSub, Nat.reduceLeDiff]
        refine Fz.bool ?_
        simp
        intro e; subst e; exact hc rfl
    · have hk' : k = a.length := by simp at h; omega
      simp only [h, go_sem, ↓reduceIte, reduceCtorEq, Nat.reduceLT, Nat.reduceEqDiff, Nat.reduceAdd, Nat.reduceMul, Nat.reduceSub, Nat.reduceLeDiff]
      refine Fz.bool ?_
      rw [hk', List.take_length, hl, List.take_length] at hp
      simp [hp]
theorem toCacheEntryS (l : List CacheEntry) (hl : l.length ≤ 1048576) (hel : ∀ x ∈ l, Sp Try.prog 43 [.ag x.ds] (.ag x.ds)) : Sp Try.prog 24 [CacheEntry.sl l] (CacheEntry.sl l) := by
  have hdl : (CacheEntry.dsL l).length = l.length := CacheEntry.dsL_len l
  refine Sp.of_vc [] [.tmp 2] Try.func24 rfl (by kernel_rfl) Try.ntmps24 rfl (by simp) ?_
  simp only [go_sem, ↓reduceIte, reduceCtorEq, Nat.reduceLT, Nat.reduceEqDiff, Nat.reduceAdd, Nat.reduceMul, Nat.reduceSub, Nat.reduceLeDiff, hdl]
  refine ⟨⟨by omega, by omega⟩, ?_⟩
  refine loop_count 4 l.length (fun k => Fw.InvH 23 [(0, CacheEntry.sl l), (3, .ms 7 0 l.length)] fun H _ n => n = 1 ∧ H 7 = some ⟨0, 49, 7, (CacheEntry.dsL (l.take k) ++ List.replicate (l.length - k) [D.sc (.string ByteArray.empty), D.sc (.int .i64 0), D.sc (.int .i64 0), D.sc (.slice none 0 0), D.sc (.slice none 0 0), D.sc (.slice none 0 0), D.sc (.int .i64 0)]).flatten⟩) rfl ⟨rfl, by simp [CacheEntry.sl, envOf, setE], rfl, by simp [upd, CacheEntry.dsL_eq]⟩ ?_
  rintro k ⟨env, H, n, nt⟩ hk h5 ⟨rfl, hfs, hn, hH⟩
  simp only [List.forall_mem_cons, CacheEntry.sl] at h5 hfs hH
  simp only at hn; subst hn
  obtain ⟨e0, e1, -⟩ := hfs
  simp only [h5, e0, e1, hdl, go_sem, ↓reduceIte, reduceCtorEq, Nat.reduceLT, Nat.reduceEqDiff, Nat.reduceAdd, Nat.reduceMul, Nat.reduceSub, Nat.reduceLeDiff]
  refine condK_split (fun h => ?_) (fun h => ?_)
  · have hlt : k < l.length := by simpa using h
    have g0 := CacheEntry.dsL_get l k hlt
    have hds := CacheEntry.ds_len l[k]
    have htk : List.take 7 l[k].ds = l[k].ds := List.take_of_length_le (by omega)
    have hkl : ((k : Int) < (l.length : Int)) = True := eq_true (by omega)
    simp only [h, h5, e0, e1, g0, hds, htk, hkl, go_sem, ↓reduceIte, reduceCtorEq, Nat.reduceLT, Nat.reduceEqDiff, Nat.reduceAdd, Nat.reduceMul, Nat.reduceSub, Nat.reduceLeDiff]
    refine callK_intro _ (hel l[k] (List.getElem_mem hlt)) (by simp; exact CacheEntry.cl _) ?_
    simp only [h5, e0, e1, hds, htk, hH, hkl, go_sem, ↓reduceIte, reduceCtorEq, Nat.reduceLT, Nat.reduceEqDiff, Nat.reduceAdd, Nat.reduceMul, Nat.reduceSub, Nat.reduceLeDiff]
    have hz : ([D.sc (.string ByteArray.empty), D.sc (.int .i64 0), D.sc (.int .i64 0), D.sc (.slice none 0 0), D.sc (.slice none 0 0), D.sc (.slice none 0 0), D.sc (.int .i64 0)] : List D).length = 7 := rfl
    have hfl := flatten_len (sz := 7) (rows := CacheEntry.dsL (l.take k) ++ List.replicate (l.length - k) [D.sc (.string ByteArray.empty), D.sc (.int .i64 0), D.sc (.int .i64 0), D.sc (.slice none 0 0), D.sc (.slice none 0 0), D.sc (.slice none 0 0), D.sc (.int .i64 0)]) (by
      intro r hr; rcases List.mem_append.1 hr with hr | hr
      · exact CacheEntry.rows_len _ r hr
      · rw [List.eq_of_mem_replicate hr]; exact hz)
    simp only [List.length_append, CacheEntry.dsL_len, List.length_take, List.length_replicate] at hfl
    refine ⟨⟨by rw [hfl]; omega, by rw [List.all_eq_true]; exact CacheEntry.one l[k]⟩, ?_⟩
    refine nextC_mk (by simp [setE, wrap_succ k (by omega)]) hlt ⟨rfl, by simp [setE, e0, e1, CacheEntry.sl], rfl, ?_⟩
    simp only [upd, ↓reduceIte, Option.some.injEq, Ob.mk.injEq, true_and]
    rw [replicate_split _ hlt, put_rows (CacheEntry.dsL (l.take k)) (sz := 7) (CacheEntry.rows_len _) (by rw [CacheEntry.dsL_len]; simp; omega) hz hds rfl, CacheEntry.dsL_eq, CacheEntry.dsL_eq, List.take_succ_eq_append_getElem hlt, List.map_append, List.map_cons, List.map_nil, List.append_assoc]
    rfl
  · have hk' : k = l.length := by simp at h; omega
    subst hk'
    simp only [h, e1, go_sem, ↓reduceIte, reduceCtorEq, Nat.reduceLT, Nat.reduceEqDiff, Nat.reduceAdd, Nat.reduceMul, Nat.reduceSub, Nat.reduceLeDiff]
    refine Fz.rows hH rfl rfl (by decide) hdl.symm (CacheEntry.rows_len l) (by simp) (CacheEntry.clL l)
theorem szCacheEntry (a : CacheEntry) (left : Int) (h0 : 0 ≤ left) (h2 : left ≤ 1048576) (ha : a.ok) : Sp Try.prog 40 [.ag a.ds, I left] (I (szF a.sz left)) := by
  match a, ha with
  | .mk a0 (.mk a1_0 a1_1 a1_2 a1_3) a2 a3, ha =>
  simp only [CacheEntry.ok] at ha
  obtain ⟨o0, o1, o2⟩ := ha
  rw [CacheEntry.sz]
  refine Sp.of_vc [] [.tmp 4] Try.func40 rfl (by kernel_rfl) Try.ntmps40 rfl (by simp) ?_
  simp only [CacheEntry.ds, Core.ds, go_sem, ↓reduceIte, reduceCtorEq, Nat.reduceLT, Nat.reduceEqDiff, Nat.reduceAdd, Nat.reduceMul, Nat.reduceSub, Nat.reduceLeDiff]
  have w0 : IntKind.i64.wrap (left - (a0.size : Int)) = left - (a0.size : Int) := Go.IntWalk.i64_in _ (by unfold maxLen at o0; omega)
  simp only [w0, go_sem, ↓reduceIte, reduceCtorEq, Nat.reduceLT, Nat.reduceEqDiff, Nat.reduceAdd, Nat.reduceMul, Nat.reduceSub, Nat.reduceLeDiff]
  by_cases c0 : (a0.size : Int) ≤ left
  case neg =>
    have f0 : decide (left - (a0.size : Int) < 0) = true := by simp; omega
    simp only [f0, go_sem, ↓reduceIte, reduceCtorEq, Nat.reduceLT, Nat.reduceEqDiff, Nat.reduceAdd, Nat.reduceMul, Nat.reduceSub, Nat.reduceLeDiff]
    refine Fz.int ?_
    first | rfl | rw [szF_neg (by omega)]
  have f0 : decide (left - (a0.size : Int) < 0) = false := by simp; omega
  simp only [f0, go_sem, ↓reduceIte, reduceCtorEq, Nat.reduceLT, Nat.reduceEqDiff, Nat.reduceAdd, Nat.reduceMul, Nat.reduceSub, Nat.reduceLeDiff]
  refine callK_intro _ (szCore ((.mk a1_0 a1_1 a1_2 a1_3) : Core) _ (by omega) (by omega) o1) (by simp only [List.nil_append, List.append_nil, List.forall_mem_cons]; exact ⟨Cl.ag' (Core.cl ((.mk a1_0 a1_1 a1_2 a1_3) : Core)), by simp⟩) ?_
  by_cases c1 : ((((.mk a1_0 a1_1 a1_2 a1_3) : Core).sz : Nat) : Int) ≤ left - (a0.size : Int)
  case neg =>
    simp only [szF_neg c1, Int.reduceNeg, Int.reduceLT, go_sem, ↓reduceIte, reduceCtorEq, Nat.reduceLT, Nat.reduceEqDiff, Nat.reduceAdd, Nat.reduceMul, Nat.reduceSub, Nat.reduceLeDiff]
    refine Fz.int ?_
    first | rfl | rw [szF_neg (by omega)]
  have f1 : decide (left - (a0.size : Int) - ((((.mk a1_0 a1_1 a1_2 a1_3) : Core).sz : Nat) : Int) < 0) = false := by simp only [decide_eq_false_iff_not]; omega
  simp only [szF_pos c1, f1, go_sem, ↓reduceIte, reduceCtorEq, Nat.reduceLT, Nat.reduceEqDiff, Nat.reduceAdd, Nat.reduceMul, Nat.reduceSub, Nat.reduceLeDiff]
  refine callK_intro _ (szInt64S a2 _ (by omega) (by omega) o2) (by simp only [List.nil_append, List.append_nil, List.forall_mem_cons]; exact ⟨cl_ints a2, by simp⟩) ?_
  by_cases c2 : ((a2.length : Nat) : Int) ≤ left - (a0.size : Int) - ((((.mk a1_0 a1_1 a1_2 a1_3) : Core).sz : Nat) : Int)
  case neg =>
    simp only [szF_neg c2, Int.reduceNeg, Int.reduceLT, go_sem, ↓reduceIte, reduceCtorEq, Nat.reduceLT, Nat.reduceEqDiff, Nat.reduceAdd, Nat.reduceMul, Nat.reduceSub, Nat.reduceLeDiff]
    refine Fz.int ?_
    first | rfl | rw [szF_neg (by omega)]
  have f2 : decide (left - (a0.size : Int) - ((((.mk a1_0 a1_1 a1_2 a1_3) : Core).sz : Nat) : Int) - ((a2.length : Nat) : Int) < 0) = false := by simp only [decide_eq_false_iff_not]; omega
  simp only [szF_pos c2, f2, go_sem, ↓reduceIte, reduceCtorEq, Nat.reduceLT, Nat.reduceEqDiff, Nat.reduceAdd, Nat.reduceMul, Nat.reduceSub, Nat.reduceLeDiff]
  refine Fz.int ?_
  first | rfl | (rw [szF_pos (by omega)]; omega)
theorem eqCacheEntry (a b : CacheEntry) (ha : a.ok) : Sp Try.prog 34 [.ag a.ds, .ag b.ds] (B (decide (a = b))) := by
  match a, b, ha with
  | .mk a0 (.mk a1_0 a1_1 a1_2 a1_3) a2 a3, .mk b0 (.mk b1_0 b1_1 b1_2 b1_3) b2 b3, ha =>
  simp only [CacheEntry.ok] at ha
  obtain ⟨o0, o1, o2⟩ := ha
  refine Sp.of_vc [] [.tmp 4] Try.func34 rfl (by kernel_rfl) Try.ntmps34 rfl (by simp) ?_
  simp only [CacheEntry.ds, Core.ds, go_sem, ↓reduceIte, reduceCtorEq, Nat.reduceLT, Nat.reduceEqDiff, Nat.reduceAdd, Nat.reduceMul, Nat.reduceSub, Nat.reduceLeDiff]
  by_cases c0 : a0 = b0
  case neg =>
    have f0 : (!(a0.toList == b0.toList)) = true := by simp [bytes_eq, c0]
    simp only [f0, go_sem, ↓reduceIte, reduceCtorEq, Nat.reduceLT, Nat.reduceEqDiff, Nat.reduceAdd, Nat.reduceMul, Nat.reduceSub, Nat.reduceLeDiff]
    exact Fz.bool (by simp [c0])
  have f0 : (!(a0.toList == b0.toList)) = false := by simp [bytes_eq, c0]
  simp only [f0, go_sem, ↓reduceIte, reduceCtorEq, Nat.reduceLT, Nat.reduceEqDiff, Nat.reduceAdd, Nat.reduceMul, Nat.reduceSub, Nat.reduceLeDiff]
  refine callK_intro _ (eqCore ((.mk a1_0 a1_1 a1_2 a1_3) : Core) ((.mk b1_0 b1_1 b1_2 b1_3) : Core) o1) (by simp only [List.nil_append, List.append_nil, List.forall_mem_cons]; exact ⟨Cl.ag' (Core.cl ((.mk a1_0 a1_1 a1_2 a1_3) : Core)), Cl.ag' (Core.cl ((.mk b1_0 b1_1 b1_2 b1_3) : Core)), by simp⟩) ?_
  by_cases c1 : ((.mk a1_0 a1_1 a1_2 a1_3) : Core) = ((.mk b1_0 b1_1 b1_2 b1_3) : Core)
  case neg =>
    have f1 : decide (((.mk a1_0 a1_1 a1_2 a1_3) : Core) = ((.mk b1_0 b1_1 b1_2 b1_3) : Core)) = false := by simp [c1]
    simp only [f1, go_sem, ↓reduceIte, reduceCtorEq, Nat.reduceLT, Nat.reduceEqDiff, Nat.reduceAdd, Nat.reduceMul, Nat.reduceSub, Nat.reduceLeDiff]
    refine Fz.bool ?_
    symm; rw [decide_eq_false_iff_not]; intro e; apply c1; injection e
  have f1 : decide (((.mk a1_0 a1_1 a1_2 a1_3) : Core) = ((.mk b1_0 b1_1 b1_2 b1_3) : Core)) = true := by rw [decide_eq_true_eq]; exact c1
  simp only [f1, go_sem, ↓reduceIte, reduceCtorEq, Nat.reduceLT, Nat.reduceEqDiff, Nat.reduceAdd, Nat.reduceMul, Nat.reduceSub, Nat.reduceLeDiff]
  refine callK_intro _ (eqInt64S _ _ o2) (by simp only [List.nil_append, List.append_nil, List.forall_mem_cons]; exact ⟨cl_ints a2, cl_ints b2, by simp⟩) ?_
  by_cases c2 : a2 = b2
  case neg =>
    have f2 : decide (a2 = b2) = false := by simp [c2]
    simp only [f2, go_sem, ↓reduceIte, reduceCtorEq, Nat.reduceLT, Nat.reduceEqDiff, Nat.reduceAdd, Nat.reduceMul, Nat.reduceSub, Nat.reduceLeDiff]
    refine Fz.bool ?_
    symm; rw [decide_eq_false_iff_not]; intro e; apply c2; injection e
  have f2 : decide (a2 = b2) = true := by rw [decide_eq_true_eq]; exact c2
  simp only [f2, go_sem, ↓reduceIte, reduceCtorEq, Nat.reduceLT, Nat.reduceEqDiff, Nat.reduceAdd, Nat.reduceMul, Nat.reduceSub, Nat.reduceLeDiff]
  by_cases c3 : a3 = b3
  case neg =>
    have f3 : (a3 != b3) = true := by simp [c3]
    simp only [f3, go_sem, ↓reduceIte, reduceCtorEq, Nat.reduceLT, Nat.reduceEqDiff, Nat.reduceAdd, Nat.reduceMul, Nat.reduceSub, Nat.reduceLeDiff]
    exact Fz.bool (by simp [c3])
  have f3 : (a3 != b3) = false := by simp [c3]
  simp only [f3, go_sem, ↓reduceIte, reduceCtorEq, Nat.reduceLT, Nat.reduceEqDiff, Nat.reduceAdd, Nat.reduceMul, Nat.reduceSub, Nat.reduceLeDiff]
  refine Fz.bool ?_
  symm; rw [decide_eq_true_eq, c0, c1, c2, c3]
theorem toCacheEntry (a : CacheEntry) (ha : a.sz ≤ 1048576) : Sp Try.prog 43 [.ag a.ds] (.ag a.ds) := by
  match a, ha with
  | .mk a0 (.mk a1_0 a1_1 a1_2 a1_3) a2 a3, ha =>
  rw [CacheEntry.sz] at ha
  refine Sp.of_vc [] [.cell 2 49] Try.func43 rfl (by kernel_rfl) Try.ntmps43 rfl (by simp) ?_
  simp only [CacheEntry.ds, Core.ds, go_sem, ↓reduceIte, reduceCtorEq, Nat.reduceLT, Nat.reduceEqDiff, Nat.reduceAdd, Nat.reduceMul, Nat.reduceSub, Nat.reduceLeDiff]
  refine callK_intro _ (toCore ((.mk a1_0 a1_1 a1_2 a1_3) : Core) (by omega)) (by simp only [List.nil_append, List.append_nil, List.forall_mem_cons]; exact ⟨Cl.ag' (Core.cl ((.mk a1_0 a1_1 a1_2 a1_3) : Core)), by simp⟩) ?_
  simp only [CacheEntry.ds, Core.ds, go_sem, ↓reduceIte, reduceCtorEq, Nat.reduceLT, Nat.reduceEqDiff, Nat.reduceAdd, Nat.reduceMul, Nat.reduceSub, Nat.reduceLeDiff]
  refine callK_intro _ (toInt64S a2 (by omega)) (by simp only [List.nil_append, List.append_nil, List.forall_mem_cons]; exact ⟨cl_ints a2, by simp⟩) ?_
  simp only [CacheEntry.ds, Core.ds, go_sem, ↓reduceIte, reduceCtorEq, Nat.reduceLT, Nat.reduceEqDiff, Nat.reduceAdd, Nat.reduceMul, Nat.reduceSub, Nat.reduceLeDiff]
  exact Fz.same (by simp [CacheEntry.ds, Core.ds]) (Cl.ag' (CacheEntry.cl (.mk a0 (.mk a1_0 a1_1 a1_2 a1_3) a2 a3)))
theorem szCache (a : Cache) (left : Int) (h0 : 0 ≤ left) (h2 : left ≤ 1048576) (ha : a.ok) : Sp Try.prog 11 [.ag a.ds, I left] (I (szF a.sz left)) := by
  match a, ha with
  | .mk a0 a1 a2, ha =>
  simp only [Cache.ok] at ha
  obtain ⟨o2, p2⟩ := ha
  rw [Cache.sz]
  refine Sp.of_vc [] [.tmp 4] Try.func11 rfl (by kernel_rfl) Try.ntmps11 rfl (by simp) ?_
  simp only [Cache.ds, go_sem, ↓reduceIte, reduceCtorEq, Nat.reduceLT, Nat.reduceEqDiff, Nat.reduceAdd, Nat.reduceMul, Nat.reduceSub, Nat.reduceLeDiff]
  refine callK_intro _ (szCacheEntryS a2 _ (by omega) (by omega) o2 (fun x hx left g0 g2 => szCacheEntry x left g0 g2 (CacheEntry.okS_mem p2 x hx))) (by simp only [List.nil_append, List.append_nil, List.forall_mem_cons]; exact ⟨CacheEntry.cl_sl a2, by simp⟩) ?_
  by_cases c2 : (((a2.length + CacheEntry.szS a2) : Nat) : Int) ≤ left
  case neg =>
    simp only [szF_neg c2, Int.reduceNeg, Int.reduceLT, go_sem, ↓reduceIte, reduceCtorEq, Nat.reduceLT, Nat.reduceEqDiff, Nat.reduceAdd, Nat.reduceMul, Nat.reduceSub, Nat.reduceLeDiff]
    refine Fz.int ?_
    first | rfl | rw [szF_neg (by omega)]
  have f2 : decide (left - (((a2.length + CacheEntry.szS a2) : Nat) : Int) < 0) = false := by simp only [decide_eq_false_iff_not]; omega
  simp only [szF_pos c2, f2, go_sem, ↓reduceIte, reduceCtorEq, Nat.reduceLT, Nat.reduceEqDiff, Nat.reduceAdd, Nat.reduceMul, Nat.reduceSub, Nat.reduceLeDiff]
  refine Fz.int ?_
  first | rfl | (rw [szF_pos (by omega)]; omega)
theorem eqCache (a b : Cache) (ha : a.ok) : Sp Try.prog 8 [.ag a.ds, .ag b.ds] (B (decide (a = b))) := by
  match a, b, ha with
  | .mk a0 a1 a2, .mk b0 b1 b2, ha =>
  simp only [Cache.ok] at ha
  obtain ⟨o2, p2⟩ := ha
  refine Sp.of_vc [] [.tmp 4] Try.func8 rfl (by kernel_rfl) Try.ntmps8 rfl (by simp) ?_
  simp only [Cache.ds, go_sem, ↓reduceIte, reduceCtorEq, Nat.reduceLT, Nat.reduceEqDiff, Nat.reduceAdd, Nat.reduceMul, Nat.reduceSub, Nat.reduceLeDiff]
  by_cases c0 : a0 = b0
  case neg =>
    have f0 : (a0 != b0) = true := by simp [c0]
    simp only [f0, go_sem, ↓reduceIte, reduceCtorEq, Nat.reduceLT, Nat.reduceEqDiff, Nat.reduceAdd, Nat.reduceMul, Nat.reduceSub, Nat.reduceLeDiff]
    exact Fz.bool (by simp [c0])
  have f0 : (a0 != b0) = false := by simp [c0]
  simp only [f0, go_sem, ↓reduceIte, reduceCtorEq, Nat.reduceLT, Nat.reduceEqDiff, Nat.reduceAdd, Nat.reduceMul, Nat.reduceSub, Nat.reduceLeDiff]
  by_cases c1 : a1 = b1
  case neg =>
    have f1 : (a1 != b1) = true := by simp [c1]
    simp only [f1, go_sem, ↓reduceIte, reduceCtorEq, Nat.reduceLT, Nat.reduceEqDiff, Nat.reduceAdd, Nat.reduceMul, Nat.reduceSub, Nat.reduceLeDiff]
    exact Fz.bool (by simp [c1])
  have f1 : (a1 != b1) = false := by simp [c1]
  simp only [f1, go_sem, ↓reduceIte, reduceCtorEq, Nat.reduceLT, Nat.reduceEqDiff, Nat.reduceAdd, Nat.reduceMul, Nat.reduceSub, Nat.reduceLeDiff]
  refine callK_intro _ (eqCacheEntryS _ _ o2 (fun x hx y => eqCacheEntry x y (CacheEntry.okS_mem p2 x hx))) (by simp only [List.nil_append, List.append_nil, List.forall_mem_cons]; exact ⟨CacheEntry.cl_sl a2, CacheEntry.cl_sl b2, by simp⟩) ?_
  by_cases c2 : a2 = b2
  case neg =>
    have f2 : decide (a2 = b2) = false := by simp [c2]
    simp only [f2, go_sem, ↓reduceIte, reduceCtorEq, Nat.reduceLT, Nat.reduceEqDiff, Nat.reduceAdd, Nat.reduceMul, Nat.reduceSub, Nat.reduceLeDiff]
    refine Fz.bool ?_
    symm; rw [decide_eq_false_iff_not]; intro e; apply c2; injection e
  have f2 : decide (a2 = b2) = true := by rw [decide_eq_true_eq]; exact c2
  simp only [f2, go_sem, ↓reduceIte, reduceCtorEq, Nat.reduceLT, Nat.reduceEqDiff, Nat.reduceAdd, Nat.reduceMul, Nat.reduceSub, Nat.reduceLeDiff]
  refine Fz.bool ?_
  symm; rw [decide_eq_true_eq, c0, c1, c2]
theorem toCache (a : Cache) (ha : a.sz ≤ 1048576) : Sp Try.prog 13 [.ag a.ds] (.ag a.ds) := by
  match a, ha with
  | .mk a0 a1 a2, ha =>
  rw [Cache.sz] at ha
  refine Sp.of_vc [] [.cell 2 24] Try.func13 rfl (by kernel_rfl) Try.ntmps13 rfl (by simp) ?_
  simp only [Cache.ds, go_sem, ↓reduceIte, reduceCtorEq, Nat.reduceLT, Nat.reduceEqDiff, Nat.reduceAdd, Nat.reduceMul, Nat.reduceSub, Nat.reduceLeDiff]
  refine callK_intro _ (toCacheEntryS a2 (by omega) (fun x hx => toCacheEntry x (by have := CacheEntry.sz_mem hx; omega))) (by simp only [List.nil_append, List.append_nil, List.forall_mem_cons]; exact ⟨CacheEntry.cl_sl a2, by simp⟩) ?_
  simp only [Cache.ds, go_sem, ↓reduceIte, reduceCtorEq, Nat.reduceLT, Nat.reduceEqDiff, Nat.reduceAdd, Nat.reduceMul, Nat.reduceSub, Nat.reduceLeDiff]
  exact Fz.same (by simp [Cache.ds]) (Cl.ag' (Cache.cl (.mk a0 a1 a2)))
end Go.Proofs.Ytjdeehcbhpakhaa
