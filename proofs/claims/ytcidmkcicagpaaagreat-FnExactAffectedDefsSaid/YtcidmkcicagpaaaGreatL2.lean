/-
  Contracts over data of the law package's sizes, copies and comparisons. No condition.
-/
import Derived.Test.YtcidmkcicagpaaaGreatVs
namespace Go.Proofs.YtcidmkcicagpaaaGreat
open Go.Fw
open Nat (reduceLT reduceEqDiff reduceAdd reduceMul reduceSub reduceLeDiff)
open List (reduceReplicate)
open Classical
set_option maxRecDepth 100000
set_option linter.unusedSimpArgs false
set_option linter.unusedVariables false
theorem eqInt64S (a b : List Int) (ha : a.length ≤ maxLen) : Sp Tryz.prog 18 [ints a, ints b] (B (decide (a = b))) := by
  unfold maxLen at ha
  refine Sp.of_vc [] [.tmp 4] Tryz.func18 rfl (by kernel_rfl) Tryz.ntmps18 rfl (by simp) ?_
  simp only [go_sem, ↓reduceIte, reduceCtorEq, reduceLT, reduceEqDiff, Nat.reduceBEq, reduceAdd, reduceMul, reduceSub, reduceLeDiff, reduceReplicate]
  refine condK_split (fun h => ?_) (fun h => ?_)
  · simp only [h, go_sem, ↓reduceIte, reduceCtorEq, reduceLT, reduceEqDiff, Nat.reduceBEq, reduceAdd, reduceMul, reduceSub, reduceLeDiff, reduceReplicate]
    refine Fz.bool ?_
    simp at h ⊢
    intro e; subst e; simp at h
  · have hl : a.length = b.length := by simp at h; omega
    simp only [h, go_sem, ↓reduceIte, reduceCtorEq, reduceLT, reduceEqDiff, Nat.reduceBEq, reduceAdd, reduceMul, reduceSub, reduceLeDiff, reduceReplicate]
    refine loop_count 5 a.length (fun k => Fw.Inv 26 [(0, ints a), (1, ints b)] (a.take k = b.take k)) rfl ⟨rfl, by simp [ints, envOf, setE], by simp⟩ ?_
    rintro k ⟨env, H, n, nt⟩ hk h5 ⟨rfl, hfs, hp⟩
    simp only [List.forall_mem_cons, ints] at h5 hfs
    obtain ⟨e0, e1, -⟩ := hfs
    simp only [h5, e0, e1, go_sem, ↓reduceIte, reduceCtorEq, reduceLT, reduceEqDiff, Nat.reduceBEq, reduceAdd, reduceMul, reduceSub, reduceLeDiff, reduceReplicate]
    refine condK_split (fun h => ?_) (fun h => ?_)
    · have hlt : k < a.length := by simpa using h
      have g0 : (a.map fun n => [I n])[k]? = some [I a[k]] := by simp [hlt]
      have g1 : (b.map fun n => [I n])[k]? = some [I (b[k]'(by omega))] := by simp [show k < b.length by omega]
      simp only [h, h5, e0, e1, g0, g1, go_sem, ↓reduceIte, reduceCtorEq, reduceLT, reduceEqDiff, Nat.reduceBEq, reduceAdd, reduceMul, reduceSub, reduceLeDiff, reduceReplicate]
      refine drawK_intro mixed (by kernel_rfl) ?_
      refine condK_split (fun hc => ?_) (fun hc => ?_)
      · simp only [hc, go_sem, ↓reduceIte, reduceCtorEq, reduceLT, reduceEqDiff, Nat.reduceBEq, reduceAdd, reduceMul, reduceSub, reduceLeDiff, reduceReplicate]
        refine Fz.bool ?_
        simp at hc ⊢
        intro e; subst e; exact hc rfl
      · simp only [hc, h5, go_sem, ↓reduceIte, reduceCtorEq, reduceLT, reduceEqDiff, Nat.reduceBEq, reduceAdd, reduceMul, reduceSub, reduceLeDiff, reduceReplicate]
        refine nextC_mk (by simp [setE, wrap_succ k (by omega)]) hlt ⟨rfl, by simp [setE, e0, e1, ints], ?_⟩
        simp at hc
        rw [List.take_succ_eq_append_getElem hlt, List.take_succ_eq_append_getElem (by omega), hp, hc]
    · have hk' : k = a.length := by simp at h; omega
      simp only [h, go_sem, ↓reduceIte, reduceCtorEq, reduceLT, reduceEqDiff, Nat.reduceBEq, reduceAdd, reduceMul, reduceSub, reduceLeDiff, reduceReplicate]
      refine Fz.bool ?_
      rw [hk', List.take_length, hl, List.take_length] at hp
      simp [hp]
theorem szStringS (l : List ByteArray) (left : Int) (h0 : 0 ≤ left) (h2 : left ≤ 1048576) (hl : l.length ≤ maxLen) (hs : ∀ s ∈ l, ByteArray.size s ≤ maxLen) : Sp Tryz.prog 53 [strs l, I left] (I (szF (l.length + strSz l) left)) := by
  unfold maxLen at hl hs
  have ew : IntKind.i64.wrap (left - (l.length : Int)) = left - l.length := Go.IntWalk.i64_in _ (by omega)
  refine Sp.of_vc [] [.tmp 4] Tryz.func53 rfl (by kernel_rfl) Tryz.ntmps53 rfl (by simp) ?_
  simp only [go_sem, ↓reduceIte, reduceCtorEq, reduceLT, reduceEqDiff, Nat.reduceBEq, reduceAdd, reduceMul, reduceSub, reduceLeDiff, reduceReplicate, ew]
  refine condK_split (fun h => ?_) (fun h => ?_)
  · simp only [h, go_sem, ↓reduceIte, reduceCtorEq, reduceLT, reduceEqDiff, Nat.reduceBEq, reduceAdd, reduceMul, reduceSub, reduceLeDiff, reduceReplicate]
    refine Fz.int ?_
    simp at h; rw [szF_neg (by omega)]
  · have hle : (l.length : Int) ≤ left := by simp at h; omega
    simp only [h, go_sem, ↓reduceIte, reduceCtorEq, reduceLT, reduceEqDiff, Nat.reduceBEq, reduceAdd, reduceMul, reduceSub, reduceLeDiff, reduceReplicate]
    refine loop_count 5 l.length (fun k => Fw.Inv 28 [(0, strs l), (1, I (left - l.length - strSz (l.take k)))] ((l.length : Int) + strSz (l.take k) ≤ left)) rfl ⟨rfl, by simp [strs, envOf, setE, strSz], by simp [strSz]; omega⟩ ?_
    rintro k ⟨env, H, n, nt⟩ hk h5 ⟨rfl, hfs, hp⟩
    simp only [List.forall_mem_cons, strs] at h5 hfs
    obtain ⟨e0, e1, -⟩ := hfs
    simp only [h5, e0, e1, go_sem, ↓reduceIte, reduceCtorEq, reduceLT, reduceEqDiff, Nat.reduceBEq, reduceAdd, reduceMul, reduceSub, reduceLeDiff, reduceReplicate]
    refine condK_split (fun h => ?_) (fun h => ?_)
    · have hlt : k < l.length := by simpa using h
      have g0 : (l.map fun s => [S s])[k]? = some [S l[k]] := by simp [hlt]
      have hsk := hs l[k] (List.getElem_mem hlt)
      have ew2 : IntKind.i64.wrap (left - (l.length : Int) - strSz (l.take k) - (l[k].size : Int)) = left - (l.length : Int) - strSz (l.take k) - l[k].size := Go.IntWalk.i64_in _ (by omega)
      have hst := strSz_take l k hlt
      have hsl := strSz_le l (k + 1)
      simp only [h, h5, e0, e1, g0, ew2, go_sem, ↓reduceIte, reduceCtorEq, reduceLT, reduceEqDiff, Nat.reduceBEq, reduceAdd, reduceMul, reduceSub, reduceLeDiff, reduceReplicate]
      refine condK_split (fun hc => ?_) (fun hc => ?_)
      · simp only [hc, go_sem, ↓reduceIte, reduceCtorEq, reduceLT, reduceEqDiff, Nat.reduceBEq, reduceAdd, reduceMul, reduceSub, reduceLeDiff, reduceReplicate]
        refine Fz.int ?_
        simp at hc; rw [szF_neg (by omega)]
      · simp only [hc, h5, go_sem, ↓reduceIte, reduceCtorEq, reduceLT, reduceEqDiff, Nat.reduceBEq, reduceAdd, reduceMul, reduceSub, reduceLeDiff, reduceReplicate]
        simp at hc
        refine nextC_mk (by simp [setE, wrap_succ k (by omega)]) hlt ⟨rfl, ?_, by omega⟩
        simp only [List.forall_mem_cons, setE, ↓reduceIte, Nat.reduceEqDiff, e0, strs, List.not_mem_nil, false_implies, implies_true, and_true, true_and]
        rw [hst]; exact congrArg (fun n => D.sc (.int .i64 n)) (by omega)
    · have hk' : k = l.length := by simp at h; omega
      subst hk'
      simp only [h, e1, go_sem, ↓reduceIte, reduceCtorEq, reduceLT, reduceEqDiff, Nat.reduceBEq, reduceAdd, reduceMul, reduceSub, reduceLeDiff, reduceReplicate]
      refine Fz.int ?_
      rw [List.take_length] at hp ⊢
      rw [szF_pos (by omega)]; omega
theorem eqStringS (a b : List ByteArray) (ha : a.length ≤ maxLen) : Sp Tryz.prog 76 [strs a, strs b] (B (decide (a = b))) := by
  unfold maxLen at ha
  refine Sp.of_vc [] [.tmp 4] Tryz.func76 rfl (by kernel_rfl) Tryz.ntmps76 rfl (by simp) ?_
  simp only [go_sem, ↓reduceIte, reduceCtorEq, reduceLT, reduceEqDiff, Nat.reduceBEq, reduceAdd, reduceMul, reduceSub, reduceLeDiff, reduceReplicate]
  refine condK_split (fun h => ?_) (fun h => ?_)
  · simp only [h, go_sem, ↓reduceIte, reduceCtorEq, reduceLT, reduceEqDiff, Nat.reduceBEq, reduceAdd, reduceMul, reduceSub, reduceLeDiff, reduceReplicate]
    refine Fz.bool ?_
    simp at h ⊢
    intro e; subst e; simp at h
  · have hl : a.length = b.length := by simp at h; omega
    simp only [h, go_sem, ↓reduceIte, reduceCtorEq, reduceLT, reduceEqDiff, Nat.reduceBEq, reduceAdd, reduceMul, reduceSub, reduceLeDiff, reduceReplicate]
    refine loop_count 5 a.length (fun k => Fw.Inv 26 [(0, strs a), (1, strs b)] (a.take k = b.take k)) rfl ⟨rfl, by simp [strs, envOf, setE], by simp⟩ ?_
    rintro k ⟨env, H, n, nt⟩ hk h5 ⟨rfl, hfs, hp⟩
    simp only [List.forall_mem_cons, strs] at h5 hfs
    obtain ⟨e0, e1, -⟩ := hfs
    simp only [h5, e0, e1, go_sem, ↓reduceIte, reduceCtorEq, reduceLT, reduceEqDiff, Nat.reduceBEq, reduceAdd, reduceMul, reduceSub, reduceLeDiff, reduceReplicate]
    refine condK_split (fun h => ?_) (fun h => ?_)
    · have hlt : k < a.length := by simpa using h
      have g0 : (a.map fun n => [S n])[k]? = some [S a[k]] := by simp [hlt]
      have g1 : (b.map fun n => [S n])[k]? = some [S (b[k]'(by omega))] := by simp [show k < b.length by omega]
      simp only [h, h5, e0, e1, g0, g1, go_sem, ↓reduceIte, reduceCtorEq, reduceLT, reduceEqDiff, Nat.reduceBEq, reduceAdd, reduceMul, reduceSub, reduceLeDiff, reduceReplicate]
      refine drawK_intro mixed (by kernel_rfl) ?_
      refine condK_split (fun hc => ?_) (fun hc => ?_)
      · simp only [hc, go_sem, ↓reduceIte, reduceCtorEq, reduceLT, reduceEqDiff, Nat.reduceBEq, reduceAdd, reduceMul, reduceSub, reduceLeDiff, reduceReplicate]
        refine Fz.bool ?_
        simp [bytes_eq] at hc ⊢
        intro e; subst e; exact hc rfl
      · simp only [hc, h5, go_sem, ↓reduceIte, reduceCtorEq, reduceLT, reduceEqDiff, Nat.reduceBEq, reduceAdd, reduceMul, reduceSub, reduceLeDiff, reduceReplicate]
        refine nextC_mk (by simp [setE, wrap_succ k (by omega)]) hlt ⟨rfl, by simp [setE, e0, e1, strs], ?_⟩
        simp [bytes_eq] at hc
        rw [List.take_succ_eq_append_getElem hlt, List.take_succ_eq_append_getElem (by omega), hp, hc]
    · have hk' : k = a.length := by simp at h; omega
      simp only [h, go_sem, ↓reduceIte, reduceCtorEq, reduceLT, reduceEqDiff, Nat.reduceBEq, reduceAdd, reduceMul, reduceSub, reduceLeDiff, reduceReplicate]
      refine Fz.bool ?_
      rw [hk', List.take_length, hl, List.take_length] at hp
      simp [hp]
theorem toStringSG (l : List ByteArray) (hl : l.length ≤ 1048576) : SpG Tryz.prog 64 [strs l] [] [] (strs l) := by
  refine SpG.of_vc [] [.tmp 2] Tryz.func64 rfl (by kernel_rfl) Tryz.ntmps64 rfl (by simp) rfl ?_
  simp only [go_sem, ↓reduceIte, reduceCtorEq, reduceLT, reduceEqDiff, Nat.reduceBEq, reduceAdd, reduceMul, reduceSub, reduceLeDiff, reduceReplicate]
  refine ⟨⟨by omega, by omega⟩, ?_⟩
  refine loop_count 4 l.length (fun k => Fw.InvT 22 [(0, strs l), (3, .ms 7 0 l.length)] fun H n T => n = bump noN 7 ∧ T = [] ∧ H 7 = some ⟨0, 9, 1, ((l.take k).map (fun n => [S n]) ++ List.replicate (l.length - k) [D.sc (.string ByteArray.empty)]).flatten, none⟩) rfl ⟨rfl, by simp [strs, envOf, setE], rfl, rfl, by simp [upd]⟩ ?_
  rintro k ⟨env, H, n, nt, T⟩ hk h5 ⟨rfl, hfs, hn, hT, hH⟩
  simp only [List.forall_mem_cons, strs] at h5 hfs hH
  simp only at hn hT; subst hn; subst hT
  obtain ⟨e0, e1, -⟩ := hfs
  simp only [h5, e0, e1, go_sem, ↓reduceIte, reduceCtorEq, reduceLT, reduceEqDiff, Nat.reduceBEq, reduceAdd, reduceMul, reduceSub, reduceLeDiff, reduceReplicate]
  refine condK_split (fun h => ?_) (fun h => ?_)
  · have hlt : k < l.length := by simpa using h
    have g0 : (l.map fun n => [S n])[k]? = some [S l[k]] := by simp [hlt]
    have hkl : ((k : Int) < (l.length : Int)) = True := eq_true (by omega)
    simp only [h, h5, e0, e1, g0, hH, hkl, go_sem, ↓reduceIte, reduceCtorEq, reduceLT, reduceEqDiff, Nat.reduceBEq, reduceAdd, reduceMul, reduceSub, reduceLeDiff, reduceReplicate]
    have hz : ([D.sc (.string ByteArray.empty)] : List D).length = 1 := rfl
    have hfl := flatten_len (sz := 1) (rows := (l.take k).map (fun n => [S n]) ++ List.replicate (l.length - k) [D.sc (.string ByteArray.empty)]) (by
      intro r hr; rcases List.mem_append.1 hr with hr | hr
      · obtain ⟨x, _, rfl⟩ := List.mem_map.1 hr; rfl
      · rw [List.eq_of_mem_replicate hr]; exact hz)
    simp only [List.length_append, List.length_map, List.length_take, List.length_replicate] at hfl
    refine ⟨by rw [hfl]; omega, ?_⟩
    refine nextC_mk (by simp [setE, wrap_succ k (by omega)]) hlt ⟨rfl, by simp [setE, e0, e1, strs], rfl, rfl, ?_⟩
    simp only [upd, ↓reduceIte, Option.some.injEq, Ob.mk.injEq, true_and, and_true]
    rw [replicate_split _ hlt, put_rows ((l.take k).map fun n => [S n]) (sz := 1) (by intro r hr; obtain ⟨x, _, rfl⟩ := List.mem_map.1 hr; rfl) (by simp; omega) hz rfl rfl, List.take_succ_eq_append_getElem hlt, List.map_append, List.map_cons, List.map_nil, List.append_assoc]
    rfl
  · have hk' : k = l.length := by simp at h; omega
    subst hk'
    simp only [h, e1, go_sem, ↓reduceIte, reduceCtorEq, reduceLT, reduceEqDiff, Nat.reduceBEq, reduceAdd, reduceMul, reduceSub, reduceLeDiff, reduceReplicate]
    refine closeK_rows hH rfl rfl (by decide) (by simp) (by intro r hr; obtain ⟨x, _, rfl⟩ := List.mem_map.1 hr; rfl) (by
      have := ol_scs (ds := (l.map fun n => [S n]).flatten) (by
        intro d hd; obtain ⟨r, hr, hd⟩ := List.mem_flatten.1 hd; obtain ⟨n, _, rfl⟩ := List.mem_map.1 hr; simp at hd; exact ⟨_, hd⟩)
      simpa using this)
theorem toStringS (l : List ByteArray) (hl : l.length ≤ 1048576) : Sp Tryz.prog 64 [strs l] (strs l) := (toStringSG l hl).sp
theorem szTypeS (l : List Typ) (left : Int) (h0 : 0 ≤ left) (h2 : left ≤ 1048576) (hl : l.length ≤ maxLen)
    (hel : ∀ x ∈ l, ∀ left : Int, 0 ≤ left → left ≤ 1048576 → Sp Tryz.prog 23 [.ag x.ds, I left] (I (szF x.sz left))) : Sp Tryz.prog 52 [Typ.sl l, I left] (I (szF (l.length + Typ.szS l) left)) := by
  unfold maxLen at hl
  have ew : IntKind.i64.wrap (left - (l.length : Int)) = left - l.length := Go.IntWalk.i64_in _ (by omega)
  have hdl : (Typ.dsL l).length = l.length := Typ.dsL_len l
  refine Sp.of_vc [] [.tmp 4] Tryz.func52 rfl (by kernel_rfl) Tryz.ntmps52 rfl (by simp) ?_
  simp only [go_sem, ↓reduceIte, reduceCtorEq, reduceLT, reduceEqDiff, Nat.reduceBEq, reduceAdd, reduceMul, reduceSub, reduceLeDiff, reduceReplicate, hdl, ew]
  refine condK_split (fun h => ?_) (fun h => ?_)
  · simp only [h, go_sem, ↓reduceIte, reduceCtorEq, reduceLT, reduceEqDiff, Nat.reduceBEq, reduceAdd, reduceMul, reduceSub, reduceLeDiff, reduceReplicate]
    refine Fz.int ?_
    simp at h; rw [szF_neg (by omega)]
  · have hle : (l.length : Int) ≤ left := by simp at h; omega
    simp only [h, go_sem, ↓reduceIte, reduceCtorEq, reduceLT, reduceEqDiff, Nat.reduceBEq, reduceAdd, reduceMul, reduceSub, reduceLeDiff, reduceReplicate]
    refine loop_count 5 l.length (fun k => Fw.Inv 27 [(0, Typ.sl l), (1, I (left - l.length - Typ.szS (l.take k)))] ((l.length : Int) + Typ.szS (l.take k) ≤ left)) rfl ⟨rfl, by simp [Typ.sl, envOf, setE, Typ.szS_eq], by simp [Typ.szS_eq]; omega⟩ ?_
    rintro k ⟨env, H, n, nt⟩ hk h5 ⟨rfl, hfs, hp⟩
    simp only [List.forall_mem_cons, Typ.sl] at h5 hfs
    obtain ⟨e0, e1, -⟩ := hfs
    simp only [h5, e0, e1, hdl, go_sem, ↓reduceIte, reduceCtorEq, reduceLT, reduceEqDiff, Nat.reduceBEq, reduceAdd, reduceMul, reduceSub, reduceLeDiff, reduceReplicate]
    refine condK_split (fun h => ?_) (fun h => ?_)
    · have hlt : k < l.length := by simpa using h
      have g0 := Typ.dsL_get l k hlt
      have hds := Typ.ds_len l[k]
      have htk : List.take 3 l[k].ds = l[k].ds := List.take_of_length_le (by omega)
      have hst := Typ.szS_take l k hlt
      have hsl := Typ.szS_le l (k + 1)
      simp only [h, h5, e0, e1, g0, hds, htk, hdl, go_sem, ↓reduceIte, reduceCtorEq, reduceLT, reduceEqDiff, Nat.reduceBEq, reduceAdd, reduceMul, reduceSub, reduceLeDiff, reduceReplicate]
      refine callK_intro _ (hel l[k] (List.getElem_mem hlt) _ (by omega) (by omega)) (by simp; exact Typ.cl _) ?_
      by_cases hc : (l[k].sz : Int) ≤ left - l.length - Typ.szS (l.take k)
      · have ec : decide (left - (l.length : Int) - Typ.szS (l.take k) - (l[k].sz : Int) < 0) = false := by simp; omega
        simp only [szF_pos hc, ec, h5, go_sem, ↓reduceIte, reduceCtorEq, reduceLT, reduceEqDiff, Nat.reduceBEq, reduceAdd, reduceMul, reduceSub, reduceLeDiff, reduceReplicate]
        refine nextC_mk (by simp [setE, wrap_succ k (by omega)]) hlt ⟨rfl, ?_, by omega⟩
        simp only [List.forall_mem_cons, setE, ↓reduceIte, Nat.reduceEqDiff, e0, Typ.sl, List.not_mem_nil, false_implies, implies_true, and_true, true_and]
        rw [hst]; exact congrArg (fun n => D.sc (.int .i64 n)) (by omega)
      · simp only [szF_neg hc, Int.reduceNeg, Int.reduceLT, go_sem, ↓reduceIte, reduceCtorEq, reduceLT, reduceEqDiff, Nat.reduceBEq, reduceAdd, reduceMul, reduceSub, reduceLeDiff, reduceReplicate]
        refine Fz.int ?_
        rw [szF_neg (by omega)]
    · have hk' : k = l.length := by simp at h; omega
      subst hk'
      simp only [h, e1, go_sem, ↓reduceIte, reduceCtorEq, reduceLT, reduceEqDiff, Nat.reduceBEq, reduceAdd, reduceMul, reduceSub, reduceLeDiff, reduceReplicate]
      refine Fz.int ?_
      rw [List.take_length] at hp ⊢
      rw [szF_pos (by omega)]; omega
theorem eqTypeS (a b : List Typ) (ha : a.length ≤ maxLen) (hel : ∀ x ∈ a, ∀ y, Sp Tryz.prog 38 [.ag x.ds, .ag y.ds] (B (decide (x = y)))) : Sp Tryz.prog 75 [Typ.sl a, Typ.sl b] (B (decide (a = b))) := by
  unfold maxLen at ha
  have hda : (Typ.dsL a).length = a.length := Typ.dsL_len a
  have hdb : (Typ.dsL b).length = b.length := Typ.dsL_len b
  refine Sp.of_vc [] [.tmp 4] Tryz.func75 rfl (by kernel_rfl) Tryz.ntmps75 rfl (by simp) ?_
  simp only [go_sem, ↓reduceIte, reduceCtorEq, reduceLT, reduceEqDiff, Nat.reduceBEq, reduceAdd, reduceMul, reduceSub, reduceLeDiff, reduceReplicate, hda, hdb]
  refine condK_split (fun h => ?_) (fun h => ?_)
  · simp only [h, go_sem, ↓reduceIte, reduceCtorEq, reduceLT, reduceEqDiff, Nat.reduceBEq, reduceAdd, reduceMul, reduceSub, reduceLeDiff, reduceReplicate]
    refine Fz.bool ?_
    simp at h ⊢
    intro e; subst e; simp at h
  · have hl : a.length = b.length := by simp at h; omega
    simp only [h, go_sem, ↓reduceIte, reduceCtorEq, reduceLT, reduceEqDiff, Nat.reduceBEq, reduceAdd, reduceMul, reduceSub, reduceLeDiff, reduceReplicate]
    refine loop_count 5 a.length (fun k => Fw.Inv 27 [(0, Typ.sl a), (1, Typ.sl b)] (a.take k = b.take k)) rfl ⟨rfl, by simp [Typ.sl, envOf, setE], by simp⟩ ?_
    rintro k ⟨env, H, n, nt⟩ hk h5 ⟨rfl, hfs, hp⟩
    simp only [List.forall_mem_cons, Typ.sl] at h5 hfs
    obtain ⟨e0, e1, -⟩ := hfs
    simp only [h5, e0, e1, hda, go_sem, ↓reduceIte, reduceCtorEq, reduceLT, reduceEqDiff, Nat.reduceBEq, reduceAdd, reduceMul, reduceSub, reduceLeDiff, reduceReplicate]
    refine condK_split (fun h => ?_) (fun h => ?_)
    · have hlt : k < a.length := by simpa using h
      have hlb : k < b.length := by omega
      have g0 := Typ.dsL_get a k hlt
      have g1 := Typ.dsL_get b k hlb
      have hd0 := Typ.ds_len a[k]
      have hd1 := Typ.ds_len b[k]
      have ht0 : List.take 3 a[k].ds = a[k].ds := List.take_of_length_le (by omega)
      have ht1 : List.take 3 b[k].ds = b[k].ds := List.take_of_length_le (by omega)
      simp only [h, h5, e0, e1, g0, g1, hd0, hd1, ht0, ht1, go_sem, ↓reduceIte, reduceCtorEq, reduceLT, reduceEqDiff, Nat.reduceBEq, reduceAdd, reduceMul, reduceSub, reduceLeDiff, reduceReplicate]
      refine drawK_intro mixed (by kernel_rfl) ?_
      refine callQ_intro _ (hel a[k] (List.getElem_mem hlt) b[k]) (by simp; exact ⟨Typ.cl _, Typ.cl _⟩) rfl ?_
      by_cases hc : a[k] = b[k]
      · have ec : decide (a[k] = b[k]) = true := by simp [hc]
        simp only [ec, h5, go_sem, ↓reduceIte, reduceCtorEq, reduceLT, reduceEqDiff, Nat.reduceBEq, reduceAdd, reduceMul, reduceSub, reduceLeDiff, reduceReplicate]
        refine nextC_mk (by simp [setE, wrap_succ k (by omega)]) hlt ⟨rfl, by simp [setE, e0, e1, Typ.sl], ?_⟩
        rw [List.take_succ_eq_append_getElem hlt, List.take_succ_eq_append_getElem hlb, hp, hc]
      · have ec : decide (a[k] = b[k]) = false := by simp [hc]
        simp only [ec, go_sem, ↓reduceIte, reduceCtorEq, reduceLT, reduceEqDiff, Nat.reduceBEq, reduceAdd, reduceMul, reduceSub, reduceLeDiff, reduceReplicate]
        refine Fz.bool ?_
        simp
        intro e; subst e; exact hc rfl
    · have hk' : k = a.length := by simp at h; omega
      simp only [h, go_sem, ↓reduceIte, reduceCtorEq, reduceLT, reduceEqDiff, Nat.reduceBEq, reduceAdd, reduceMul, reduceSub, reduceLeDiff, reduceReplicate]
      refine Fz.bool ?_
      rw [hk', List.take_length, hl, List.take_length] at hp
      simp [hp]
theorem toTypeSG (l : List Typ) (hl : l.length ≤ 1048576) (hel : ∀ x ∈ l, SpG Tryz.prog 30 [.ag x.ds] [] [] (.ag x.ds)) : SpG Tryz.prog 63 [Typ.sl l] [] [] (Typ.sl l) := by
  have hdl : (Typ.dsL l).length = l.length := Typ.dsL_len l
  refine SpG.of_vc [] [.tmp 2] Tryz.func63 rfl (by kernel_rfl) Tryz.ntmps63 rfl (by simp) rfl ?_
  simp only [go_sem, ↓reduceIte, reduceCtorEq, reduceLT, reduceEqDiff, Nat.reduceBEq, reduceAdd, reduceMul, reduceSub, reduceLeDiff, reduceReplicate, hdl]
  refine ⟨⟨by omega, by omega⟩, ?_⟩
  refine loop_count 4 l.length (fun k => Fw.InvT 23 [(0, Typ.sl l), (3, .ms 7 0 l.length)] fun H n T => n = bump noN 7 ∧ ∃ cs, OL O1 (Typ.dsL (l.take k)).flatten cs T ∧ H 7 = some ⟨0, 46, 3, cs ++ (List.replicate (l.length - k) [D.sc (.int .i64 0), D.sc (.string ByteArray.empty), D.sc (.slice none 0 0)]).flatten, none⟩) rfl ⟨rfl, by simp [Typ.sl, envOf, setE], rfl, [], by simp [Typ.dsL_eq]; exact .nil, by simp [upd]⟩ ?_
  rintro k ⟨env, H, n, nt, T⟩ hk h5 ⟨rfl, hfs, hn, cs, hcs, hH⟩
  simp only [List.forall_mem_cons, Typ.sl] at h5 hfs hH
  simp only at hn hcs; subst hn
  obtain ⟨e0, e1, -⟩ := hfs
  simp only [h5, e0, e1, hdl, go_sem, ↓reduceIte, reduceCtorEq, reduceLT, reduceEqDiff, Nat.reduceBEq, reduceAdd, reduceMul, reduceSub, reduceLeDiff, reduceReplicate]
  refine condK_split (fun h => ?_) (fun h => ?_)
  · have hlt : k < l.length := by simpa using h
    have g0 := Typ.dsL_get l k hlt
    have hds := Typ.ds_len l[k]
    have htk : List.take 3 l[k].ds = l[k].ds := List.take_of_length_le (by omega)
    have hkl : ((k : Int) < (l.length : Int)) = True := eq_true (by omega)
    simp only [h, h5, e0, e1, g0, hds, htk, hkl, go_sem, ↓reduceIte, reduceCtorEq, reduceLT, reduceEqDiff, Nat.reduceBEq, reduceAdd, reduceMul, reduceSub, reduceLeDiff, reduceReplicate]
    refine callK_new _ (hel l[k] (List.getElem_mem hlt)) (by simp; exact Typ.cl _) ?_
    intro e T' hO
    obtain ⟨es, rfl, ho⟩ := o3_ag hO
    have hes : es.length = 3 := ho.len.trans hds
    simp only [h5, e0, e1, hes, hH, hkl, go_sem, ↓reduceIte, reduceCtorEq, reduceLT, reduceEqDiff, Nat.reduceBEq, reduceAdd, reduceMul, reduceSub, reduceLeDiff, reduceReplicate]
    have hz : ([D.sc (.int .i64 0), D.sc (.string ByteArray.empty), D.sc (.slice none 0 0)] : List D).length = 3 := rfl
    have hcl : cs.length = k * 3 := by
      have h1 := hcs.len
      rw [flatten_len (Typ.rows_len _), Typ.dsL_len, List.length_take] at h1
      omega
    have hfl := flatten_len (sz := 3) (rows := List.replicate (l.length - k) [D.sc (.int .i64 0), D.sc (.string ByteArray.empty), D.sc (.slice none 0 0)]) (by
      intro r hr; rw [List.eq_of_mem_replicate hr]; exact hz)
    simp only [List.length_replicate] at hfl
    refine ⟨⟨by rw [List.length_append, hfl, hcl]; omega, by rw [List.all_eq_true]; exact ho.one (Typ.one l[k])⟩, ?_⟩
    refine nextC_mk (by simp [setE, wrap_succ k (by omega)]) hlt ⟨rfl, by simp [setE, e0, e1, Typ.sl], rfl, cs ++ es, ?_, ?_⟩
    · have := hcs.app ho
      rw [Typ.dsL_eq] at this ⊢
      rw [List.take_succ_eq_append_getElem hlt, List.map_append, List.flatten_append]
      simpa using this
    · simp only [upd, ↓reduceIte, Option.some.injEq, Ob.mk.injEq, true_and, and_true]
      rw [replicate_split _ hlt]
      exact put_flat hcl hz rfl
  · have hk' : k = l.length := by simp at h; omega
    subst hk'
    simp only [h, e1, go_sem, ↓reduceIte, reduceCtorEq, reduceLT, reduceEqDiff, Nat.reduceBEq, reduceAdd, reduceMul, reduceSub, reduceLeDiff, reduceReplicate]
    rw [List.take_length] at hcs
    refine closeK_rows hH rfl rfl (by decide) hdl.symm (Typ.rows_len l) (by simpa using hcs)
theorem toTypeS (l : List Typ) (hl : l.length ≤ 1048576) (hel : ∀ x ∈ l, SpG Tryz.prog 30 [.ag x.ds] [] [] (.ag x.ds)) : Sp Tryz.prog 63 [Typ.sl l] (Typ.sl l) := (toTypeSG l hl hel).sp
theorem szType (a : Typ) (left : Int) (h0 : 0 ≤ left) (h2 : left ≤ 1048576) (ha : a.ok) : Sp Tryz.prog 23 [.ag a.ds, I left] (I (szF a.sz left)) := by
  match a, ha with
  | .mk a0 a1 a2, ha =>
  simp only [Typ.ok] at ha
  obtain ⟨o1, o2, p2⟩ := ha
  rw [Typ.sz]
  refine Sp.of_vc [] [.tmp 4] Tryz.func23 rfl (by kernel_rfl) Tryz.ntmps23 rfl (by simp) ?_
  simp only [Typ.ds, go_sem, ↓reduceIte, reduceCtorEq, reduceLT, reduceEqDiff, Nat.reduceBEq, reduceAdd, reduceMul, reduceSub, reduceLeDiff, reduceReplicate]
  have w1 : IntKind.i64.wrap (left - (a1.size : Int)) = left - (a1.size : Int) := Go.IntWalk.i64_in _ (by unfold maxLen at o1; omega)
  simp only [w1, go_sem, ↓reduceIte, reduceCtorEq, reduceLT, reduceEqDiff, Nat.reduceBEq, reduceAdd, reduceMul, reduceSub, reduceLeDiff, reduceReplicate]
  by_cases c1 : (a1.size : Int) ≤ left
  case neg =>
    have f1 : decide (left - (a1.size : Int) < 0) = true := by simp; omega
    simp only [f1, go_sem, ↓reduceIte, reduceCtorEq, reduceLT, reduceEqDiff, Nat.reduceBEq, reduceAdd, reduceMul, reduceSub, reduceLeDiff, reduceReplicate]
    refine Fz.int ?_
    first | rfl | rw [szF_neg (by omega)]
  have f1 : decide (left - (a1.size : Int) < 0) = false := by simp; omega
  simp only [f1, go_sem, ↓reduceIte, reduceCtorEq, reduceLT, reduceEqDiff, Nat.reduceBEq, reduceAdd, reduceMul, reduceSub, reduceLeDiff, reduceReplicate]
  refine callK_intro _ (szTypeS a2 _ (by omega) (by omega) o2 (fun x hx left g0 g2 => szType x left g0 g2 (Typ.okS_mem p2 x hx))) (by simp only [List.nil_append, List.append_nil, List.forall_mem_cons]; exact ⟨Typ.cl_sl a2, by simp⟩) ?_
  by_cases c2 : (((a2.length + Typ.szS a2) : Nat) : Int) ≤ left - (a1.size : Int)
  case neg =>
    simp only [szF_neg c2, Int.reduceNeg, Int.reduceLT, go_sem, ↓reduceIte, reduceCtorEq, reduceLT, reduceEqDiff, Nat.reduceBEq, reduceAdd, reduceMul, reduceSub, reduceLeDiff, reduceReplicate]
    refine Fz.int ?_
    first | rfl | rw [szF_neg (by omega)]
  have f2 : decide (left - (a1.size : Int) - (((a2.length + Typ.szS a2) : Nat) : Int) < 0) = false := by simp only [decide_eq_false_iff_not]; omega
  simp only [szF_pos c2, f2, go_sem, ↓reduceIte, reduceCtorEq, reduceLT, reduceEqDiff, Nat.reduceBEq, reduceAdd, reduceMul, reduceSub, reduceLeDiff, reduceReplicate]
  refine Fz.int ?_
  first | rfl | (rw [szF_pos (by omega)]; omega)
termination_by a
decreasing_by all_goals (have := List.sizeOf_lt_of_mem hx; simp; omega)
theorem eqType (a b : Typ) (ha : a.ok) : Sp Tryz.prog 38 [.ag a.ds, .ag b.ds] (B (decide (a = b))) := by
  match a, b, ha with
  | .mk a0 a1 a2, .mk b0 b1 b2, ha =>
  simp only [Typ.ok] at ha
  obtain ⟨o1, o2, p2⟩ := ha
  refine Sp.of_vc [] [.tmp 4] Tryz.func38 rfl (by kernel_rfl) Tryz.ntmps38 rfl (by simp) ?_
  simp only [Typ.ds, go_sem, ↓reduceIte, reduceCtorEq, reduceLT, reduceEqDiff, Nat.reduceBEq, reduceAdd, reduceMul, reduceSub, reduceLeDiff, reduceReplicate]
  by_cases c0 : a0 = b0
  case neg =>
    have f0 : (a0 != b0) = true := by simp [c0]
    simp only [f0, go_sem, ↓reduceIte, reduceCtorEq, reduceLT, reduceEqDiff, Nat.reduceBEq, reduceAdd, reduceMul, reduceSub, reduceLeDiff, reduceReplicate]
    exact Fz.bool (by simp [c0])
  have f0 : (a0 != b0) = false := by simp [c0]
  simp only [f0, go_sem, ↓reduceIte, reduceCtorEq, reduceLT, reduceEqDiff, Nat.reduceBEq, reduceAdd, reduceMul, reduceSub, reduceLeDiff, reduceReplicate]
  by_cases c1 : a1 = b1
  case neg =>
    have f1 : (!(a1.toList == b1.toList)) = true := by simp [bytes_eq, c1]
    simp only [f1, go_sem, ↓reduceIte, reduceCtorEq, reduceLT, reduceEqDiff, Nat.reduceBEq, reduceAdd, reduceMul, reduceSub, reduceLeDiff, reduceReplicate]
    exact Fz.bool (by simp [c1])
  have f1 : (!(a1.toList == b1.toList)) = false := by simp [bytes_eq, c1]
  simp only [f1, go_sem, ↓reduceIte, reduceCtorEq, reduceLT, reduceEqDiff, Nat.reduceBEq, reduceAdd, reduceMul, reduceSub, reduceLeDiff, reduceReplicate]
  refine callK_intro _ (eqTypeS _ _ o2 (fun x hx y => eqType x y (Typ.okS_mem p2 x hx))) (by simp only [List.nil_append, List.append_nil, List.forall_mem_cons]; exact ⟨Typ.cl_sl a2, Typ.cl_sl b2, by simp⟩) ?_
  by_cases c2 : a2 = b2
  case neg =>
    have f2 : decide (a2 = b2) = false := by simp [c2]
    simp only [f2, go_sem, ↓reduceIte, reduceCtorEq, reduceLT, reduceEqDiff, Nat.reduceBEq, reduceAdd, reduceMul, reduceSub, reduceLeDiff, reduceReplicate]
    refine Fz.bool ?_
    symm; rw [decide_eq_false_iff_not]; intro e; apply c2; injection e
  have f2 : decide (a2 = b2) = true := by rw [decide_eq_true_eq]; exact c2
  simp only [f2, go_sem, ↓reduceIte, reduceCtorEq, reduceLT, reduceEqDiff, Nat.reduceBEq, reduceAdd, reduceMul, reduceSub, reduceLeDiff, reduceReplicate]
  refine Fz.bool ?_
  symm; rw [decide_eq_true_eq, c0, c1, c2]
termination_by a
decreasing_by all_goals (have := List.sizeOf_lt_of_mem hx; simp; omega)
theorem toTypeG (a : Typ) (ha : a.sz ≤ 1048576) : SpG Tryz.prog 30 [.ag a.ds] [] [] (.ag a.ds) := by
  match a, ha with
  | .mk a0 a1 a2, ha =>
  rw [Typ.sz] at ha
  refine SpG.of_vc [] [.cell 2 46] Tryz.func30 rfl (by kernel_rfl) Tryz.ntmps30 rfl (by simp) rfl ?_
  simp only [Typ.ds, go_sem, ↓reduceIte, reduceCtorEq, reduceLT, reduceEqDiff, Nat.reduceBEq, reduceAdd, reduceMul, reduceSub, reduceLeDiff, reduceReplicate]
  refine callK_new _ (toTypeSG a2 (by omega) (fun x hx => toTypeG x (by have := Typ.sz_mem hx; omega))) (by simp only [List.nil_append, List.append_nil, List.forall_mem_cons]; exact ⟨Typ.cl_sl a2, by simp⟩) ?_
  intro e2 T2 hO2
  obtain ⟨a2_, n2_, c2_, F2_, rfl, rfl⟩ := o3_sl hO2
  simp only [Typ.ds, go_sem, ↓reduceIte, reduceCtorEq, reduceLT, reduceEqDiff, Nat.reduceBEq, reduceAdd, reduceMul, reduceSub, reduceLeDiff, reduceReplicate]
  refine closeK_ag ?_
  simp only [Typ.ds, go_sem, List.cons_append, List.nil_append]
  repeat first | exact OL.nil | apply OL.sc' | apply OL.tr'
termination_by a
decreasing_by all_goals (have := List.sizeOf_lt_of_mem hx; simp; omega)
theorem toType (a : Typ) (ha : a.sz ≤ 1048576) : Sp Tryz.prog 30 [.ag a.ds] (.ag a.ds) := (toTypeG a ha).sp
theorem szConstructorS (l : List Constructor) (left : Int) (h0 : 0 ≤ left) (h2 : left ≤ 1048576) (hl : l.length ≤ maxLen)
    (hel : ∀ x ∈ l, ∀ left : Int, 0 ≤ left → left ≤ 1048576 → Sp Tryz.prog 123 [.ag x.ds, I left] (I (szF x.sz left))) : Sp Tryz.prog 94 [Constructor.sl l, I left] (I (szF (l.length + Constructor.szS l) left)) := by
  unfold maxLen at hl
  have ew : IntKind.i64.wrap (left - (l.length : Int)) = left - l.length := Go.IntWalk.i64_in _ (by omega)
  have hdl : (Constructor.dsL l).length = l.length := Constructor.dsL_len l
  refine Sp.of_vc [] [.tmp 4] Tryz.func94 rfl (by kernel_rfl) Tryz.ntmps94 rfl (by simp) ?_
  simp only [go_sem, ↓reduceIte, reduceCtorEq, reduceLT, reduceEqDiff, Nat.reduceBEq, reduceAdd, reduceMul, reduceSub, reduceLeDiff, reduceReplicate, hdl, ew]
  refine condK_split (fun h => ?_) (fun h => ?_)
  · simp only [h, go_sem, ↓reduceIte, reduceCtorEq, reduceLT, reduceEqDiff, Nat.reduceBEq, reduceAdd, reduceMul, reduceSub, reduceLeDiff, reduceReplicate]
    refine Fz.int ?_
    simp at h; rw [szF_neg (by omega)]
  · have hle : (l.length : Int) ≤ left := by simp at h; omega
    simp only [h, go_sem, ↓reduceIte, reduceCtorEq, reduceLT, reduceEqDiff, Nat.reduceBEq, reduceAdd, reduceMul, reduceSub, reduceLeDiff, reduceReplicate]
    refine loop_count 5 l.length (fun k => Fw.Inv 27 [(0, Constructor.sl l), (1, I (left - l.length - Constructor.szS (l.take k)))] ((l.length : Int) + Constructor.szS (l.take k) ≤ left)) rfl ⟨rfl, by simp [Constructor.sl, envOf, setE, Constructor.szS_eq], by simp [Constructor.szS_eq]; omega⟩ ?_
    rintro k ⟨env, H, n, nt⟩ hk h5 ⟨rfl, hfs, hp⟩
    simp only [List.forall_mem_cons, Constructor.sl] at h5 hfs
    obtain ⟨e0, e1, -⟩ := hfs
    simp only [h5, e0, e1, hdl, go_sem, ↓reduceIte, reduceCtorEq, reduceLT, reduceEqDiff, Nat.reduceBEq, reduceAdd, reduceMul, reduceSub, reduceLeDiff, reduceReplicate]
    refine condK_split (fun h => ?_) (fun h => ?_)
    · have hlt : k < l.length := by simpa using h
      have g0 := Constructor.dsL_get l k hlt
      have hds := Constructor.ds_len l[k]
      have htk : List.take 2 l[k].ds = l[k].ds := List.take_of_length_le (by omega)
      have hst := Constructor.szS_take l k hlt
      have hsl := Constructor.szS_le l (k + 1)
      simp only [h, h5, e0, e1, g0, hds, htk, hdl, go_sem, ↓reduceIte, reduceCtorEq, reduceLT, reduceEqDiff, Nat.reduceBEq, reduceAdd, reduceMul, reduceSub, reduceLeDiff, reduceReplicate]
      refine callK_intro _ (hel l[k] (List.getElem_mem hlt) _ (by omega) (by omega)) (by simp; exact Constructor.cl _) ?_
      by_cases hc : (l[k].sz : Int) ≤ left - l.length - Constructor.szS (l.take k)
      · have ec : decide (left - (l.length : Int) - Constructor.szS (l.take k) - (l[k].sz : Int) < 0) = false := by simp; omega
        simp only [szF_pos hc, ec, h5, go_sem, ↓reduceIte, reduceCtorEq, reduceLT, reduceEqDiff, Nat.reduceBEq, reduceAdd, reduceMul, reduceSub, reduceLeDiff, reduceReplicate]
        refine nextC_mk (by simp [setE, wrap_succ k (by omega)]) hlt ⟨rfl, ?_, by omega⟩
        simp only [List.forall_mem_cons, setE, ↓reduceIte, Nat.reduceEqDiff, e0, Constructor.sl, List.not_mem_nil, false_implies, implies_true, and_true, true_and]
        rw [hst]; exact congrArg (fun n => D.sc (.int .i64 n)) (by omega)
      · simp only [szF_neg hc, Int.reduceNeg, Int.reduceLT, go_sem, ↓reduceIte, reduceCtorEq, reduceLT, reduceEqDiff, Nat.reduceBEq, reduceAdd, reduceMul, reduceSub, reduceLeDiff, reduceReplicate]
        refine Fz.int ?_
        rw [szF_neg (by omega)]
    · have hk' : k = l.length := by simp at h; omega
      subst hk'
      simp only [h, e1, go_sem, ↓reduceIte, reduceCtorEq, reduceLT, reduceEqDiff, Nat.reduceBEq, reduceAdd, reduceMul, reduceSub, reduceLeDiff, reduceReplicate]
      refine Fz.int ?_
      rw [List.take_length] at hp ⊢
      rw [szF_pos (by omega)]; omega
theorem eqConstructorS (a b : List Constructor) (ha : a.length ≤ maxLen) (hel : ∀ x ∈ a, ∀ y, Sp Tryz.prog 140 [.ag x.ds, .ag y.ds] (B (decide (x = y)))) : Sp Tryz.prog 110 [Constructor.sl a, Constructor.sl b] (B (decide (a = b))) := by
  unfold maxLen at ha
  have hda : (Constructor.dsL a).length = a.length := Constructor.dsL_len a
  have hdb : (Constructor.dsL b).length = b.length := Constructor.dsL_len b
  refine Sp.of_vc [] [.tmp 4] Tryz.func110 rfl (by kernel_rfl) Tryz.ntmps110 rfl (by simp) ?_
  simp only [go_sem, ↓reduceIte, reduceCtorEq, reduceLT, reduceEqDiff, Nat.reduceBEq, reduceAdd, reduceMul, reduceSub, reduceLeDiff, reduceReplicate, hda, hdb]
  refine condK_split (fun h => ?_) (fun h => ?_)
  · simp only [h, go_sem, ↓reduceIte, reduceCtorEq, reduceLT, reduceEqDiff, Nat.reduceBEq, reduceAdd, reduceMul, reduceSub, reduceLeDiff, reduceReplicate]
    refine Fz.bool ?_
    simp at h ⊢
    intro e; subst e; simp at h
  · have hl : a.length = b.length := by simp at h; omega
    simp only [h, go_sem, ↓reduceIte, reduceCtorEq, reduceLT, reduceEqDiff, Nat.reduceBEq, reduceAdd, reduceMul, reduceSub, reduceLeDiff, reduceReplicate]
    refine loop_count 5 a.length (fun k => Fw.Inv 27 [(0, Constructor.sl a), (1, Constructor.sl b)] (a.take k = b.take k)) rfl ⟨rfl, by simp [Constructor.sl, envOf, setE], by simp⟩ ?_
    rintro k ⟨env, H, n, nt⟩ hk h5 ⟨rfl, hfs, hp⟩
    simp only [List.forall_mem_cons, Constructor.sl] at h5 hfs
    obtain ⟨e0, e1, -⟩ := hfs
    simp only [h5, e0, e1, hda, go_sem, ↓reduceIte, reduceCtorEq, reduceLT, reduceEqDiff, Nat.reduceBEq, reduceAdd, reduceMul, reduceSub, reduceLeDiff, reduceReplicate]
    refine condK_split (fun h => ?_) (fun h => ?_)
    · have hlt : k < a.length := by simpa using h
      have hlb : k < b.length := by omega
      have g0 := Constructor.dsL_get a k hlt
      have g1 := Constructor.dsL_get b k hlb
      have hd0 := Constructor.ds_len a[k]
      have hd1 := Constructor.ds_len b[k]
      have ht0 : List.take 2 a[k].ds = a[k].ds := List.take_of_length_le (by omega)
      have ht1 : List.take 2 b[k].ds = b[k].ds := List.take_of_length_le (by omega)
      simp only [h, h5, e0, e1, g0, g1, hd0, hd1, ht0, ht1, go_sem, ↓reduceIte, reduceCtorEq, reduceLT, reduceEqDiff, Nat.reduceBEq, reduceAdd, reduceMul, reduceSub, reduceLeDiff, reduceReplicate]
      refine drawK_intro mixed (by kernel_rfl) ?_
      refine callQ_intro _ (hel a[k] (List.getElem_mem hlt) b[k]) (by simp; exact ⟨Constructor.cl _, Constructor.cl _⟩) rfl ?_
      by_cases hc : a[k] = b[k]
      · have ec : decide (a[k] = b[k]) = true := by simp [hc]
        simp only [ec, h5, go_sem, ↓reduceIte, reduceCtorEq, reduceLT, reduceEqDiff, Nat.reduceBEq, reduceAdd, reduceMul, reduceSub, reduceLeDiff, reduceReplicate]
        refine nextC_mk (by simp [setE, wrap_succ k (by omega)]) hlt ⟨rfl, by simp [setE, e0, e1, Constructor.sl], ?_⟩
        rw [List.take_succ_eq_append_getElem hlt, List.take_succ_eq_append_getElem hlb, hp, hc]
      · have ec : decide (a[k] = b[k]) = false := by simp [hc]
        simp only [ec, go_sem, ↓reduceIte, reduceCtorEq, reduceLT, reduceEqDiff, Nat.reduceBEq, reduceAdd, reduceMul, reduceSub, reduceLeDiff, reduceReplicate]
        refine Fz.bool ?_
        simp
        intro e; subst e; exact hc rfl
    · have hk' : k = a.length := by simp at h; omega
      simp only [h, go_sem, ↓reduceIte, reduceCtorEq, reduceLT, reduceEqDiff, Nat.reduceBEq, reduceAdd, reduceMul, reduceSub, reduceLeDiff, reduceReplicate]
      refine Fz.bool ?_
      rw [hk', List.take_length, hl, List.take_length] at hp
      simp [hp]
theorem toConstructorSG (l : List Constructor) (hl : l.length ≤ 1048576) (hel : ∀ x ∈ l, SpG Tryz.prog 129 [.ag x.ds] [] [] (.ag x.ds)) : SpG Tryz.prog 101 [Constructor.sl l] [] [] (Constructor.sl l) := by
  have hdl : (Constructor.dsL l).length = l.length := Constructor.dsL_len l
  refine SpG.of_vc [] [.tmp 2] Tryz.func101 rfl (by kernel_rfl) Tryz.ntmps101 rfl (by simp) rfl ?_
  simp only [go_sem, ↓reduceIte, reduceCtorEq, reduceLT, reduceEqDiff, Nat.reduceBEq, reduceAdd, reduceMul, reduceSub, reduceLeDiff, reduceReplicate, hdl]
  refine ⟨⟨by omega, by omega⟩, ?_⟩
  refine loop_count 4 l.length (fun k => Fw.InvT 23 [(0, Constructor.sl l), (3, .ms 7 0 l.length)] fun H n T => n = bump noN 7 ∧ ∃ cs, OL O1 (Constructor.dsL (l.take k)).flatten cs T ∧ H 7 = some ⟨0, 109, 2, cs ++ (List.replicate (l.length - k) [D.sc (.string ByteArray.empty), D.sc (.slice none 0 0)]).flatten, none⟩) rfl ⟨rfl, by simp [Constructor.sl, envOf, setE], rfl, [], by simp [Constructor.dsL_eq]; exact .nil, by simp [upd]⟩ ?_
  rintro k ⟨env, H, n, nt, T⟩ hk h5 ⟨rfl, hfs, hn, cs, hcs, hH⟩
  simp only [List.forall_mem_cons, Constructor.sl] at h5 hfs hH
  simp only at hn hcs; subst hn
  obtain ⟨e0, e1, -⟩ := hfs
  simp only [h5, e0, e1, hdl, go_sem, ↓reduceIte, reduceCtorEq, reduceLT, reduceEqDiff, Nat.reduceBEq, reduceAdd, reduceMul, reduceSub, reduceLeDiff, reduceReplicate]
  refine condK_split (fun h => ?_) (fun h => ?_)
  · have hlt : k < l.length := by simpa using h
    have g0 := Constructor.dsL_get l k hlt
    have hds := Constructor.ds_len l[k]
    have htk : List.take 2 l[k].ds = l[k].ds := List.take_of_length_le (by omega)
    have hkl : ((k : Int) < (l.length : Int)) = True := eq_true (by omega)
    simp only [h, h5, e0, e1, g0, hds, htk, hkl, go_sem, ↓reduceIte, reduceCtorEq, reduceLT, reduceEqDiff, Nat.reduceBEq, reduceAdd, reduceMul, reduceSub, reduceLeDiff, reduceReplicate]
    refine callK_new _ (hel l[k] (List.getElem_mem hlt)) (by simp; exact Constructor.cl _) ?_
    intro e T' hO
    obtain ⟨es, rfl, ho⟩ := o3_ag hO
    have hes : es.length = 2 := ho.len.trans hds
    simp only [h5, e0, e1, hes, hH, hkl, go_sem, ↓reduceIte, reduceCtorEq, reduceLT, reduceEqDiff, Nat.reduceBEq, reduceAdd, reduceMul, reduceSub, reduceLeDiff, reduceReplicate]
    have hz : ([D.sc (.string ByteArray.empty), D.sc (.slice none 0 0)] : List D).length = 2 := rfl
    have hcl : cs.length = k * 2 := by
      have h1 := hcs.len
      rw [flatten_len (Constructor.rows_len _), Constructor.dsL_len, List.length_take] at h1
      omega
    have hfl := flatten_len (sz := 2) (rows := List.replicate (l.length - k) [D.sc (.string ByteArray.empty), D.sc (.slice none 0 0)]) (by
      intro r hr; rw [List.eq_of_mem_replicate hr]; exact hz)
    simp only [List.length_replicate] at hfl
    refine ⟨⟨by rw [List.length_append, hfl, hcl]; omega, by rw [List.all_eq_true]; exact ho.one (Constructor.one l[k])⟩, ?_⟩
    refine nextC_mk (by simp [setE, wrap_succ k (by omega)]) hlt ⟨rfl, by simp [setE, e0, e1, Constructor.sl], rfl, cs ++ es, ?_, ?_⟩
    · have := hcs.app ho
      rw [Constructor.dsL_eq] at this ⊢
      rw [List.take_succ_eq_append_getElem hlt, List.map_append, List.flatten_append]
      simpa using this
    · simp only [upd, ↓reduceIte, Option.some.injEq, Ob.mk.injEq, true_and, and_true]
      rw [replicate_split _ hlt]
      exact put_flat hcl hz rfl
  · have hk' : k = l.length := by simp at h; omega
    subst hk'
    simp only [h, e1, go_sem, ↓reduceIte, reduceCtorEq, reduceLT, reduceEqDiff, Nat.reduceBEq, reduceAdd, reduceMul, reduceSub, reduceLeDiff, reduceReplicate]
    rw [List.take_length] at hcs
    refine closeK_rows hH rfl rfl (by decide) hdl.symm (Constructor.rows_len l) (by simpa using hcs)
theorem toConstructorS (l : List Constructor) (hl : l.length ≤ 1048576) (hel : ∀ x ∈ l, SpG Tryz.prog 129 [.ag x.ds] [] [] (.ag x.ds)) : Sp Tryz.prog 101 [Constructor.sl l] (Constructor.sl l) := (toConstructorSG l hl hel).sp
theorem szConstructor (a : Constructor) (left : Int) (h0 : 0 ≤ left) (h2 : left ≤ 1048576) (ha : a.ok) : Sp Tryz.prog 123 [.ag a.ds, I left] (I (szF a.sz left)) := by
  match a, ha with
  | .mk a0 a1, ha =>
  simp only [Constructor.ok] at ha
  obtain ⟨o0, o1, p1⟩ := ha
  rw [Constructor.sz]
  refine Sp.of_vc [] [.tmp 4] Tryz.func123 rfl (by kernel_rfl) Tryz.ntmps123 rfl (by simp) ?_
  simp only [Constructor.ds, go_sem, ↓reduceIte, reduceCtorEq, reduceLT, reduceEqDiff, Nat.reduceBEq, reduceAdd, reduceMul, reduceSub, reduceLeDiff, reduceReplicate]
  have w0 : IntKind.i64.wrap (left - (a0.size : Int)) = left - (a0.size : Int) := Go.IntWalk.i64_in _ (by unfold maxLen at o0; omega)
  simp only [w0, go_sem, ↓reduceIte, reduceCtorEq, reduceLT, reduceEqDiff, Nat.reduceBEq, reduceAdd, reduceMul, reduceSub, reduceLeDiff, reduceReplicate]
  by_cases c0 : (a0.size : Int) ≤ left
  case neg =>
    have f0 : decide (left - (a0.size : Int) < 0) = true := by simp; omega
    simp only [f0, go_sem, ↓reduceIte, reduceCtorEq, reduceLT, reduceEqDiff, Nat.reduceBEq, reduceAdd, reduceMul, reduceSub, reduceLeDiff, reduceReplicate]
    refine Fz.int ?_
    first | rfl | rw [szF_neg (by omega)]
  have f0 : decide (left - (a0.size : Int) < 0) = false := by simp; omega
  simp only [f0, go_sem, ↓reduceIte, reduceCtorEq, reduceLT, reduceEqDiff, Nat.reduceBEq, reduceAdd, reduceMul, reduceSub, reduceLeDiff, reduceReplicate]
  refine callK_intro _ (szTypeS a1 _ (by omega) (by omega) o1 (fun x hx left g0 g2 => szType x left g0 g2 (Typ.okS_mem p1 x hx))) (by simp only [List.nil_append, List.append_nil, List.forall_mem_cons]; exact ⟨Typ.cl_sl a1, by simp⟩) ?_
  by_cases c1 : (((a1.length + Typ.szS a1) : Nat) : Int) ≤ left - (a0.size : Int)
  case neg =>
    simp only [szF_neg c1, Int.reduceNeg, Int.reduceLT, go_sem, ↓reduceIte, reduceCtorEq, reduceLT, reduceEqDiff, Nat.reduceBEq, reduceAdd, reduceMul, reduceSub, reduceLeDiff, reduceReplicate]
    refine Fz.int ?_
    first | rfl | rw [szF_neg (by omega)]
  have f1 : decide (left - (a0.size : Int) - (((a1.length + Typ.szS a1) : Nat) : Int) < 0) = false := by simp only [decide_eq_false_iff_not]; omega
  simp only [szF_pos c1, f1, go_sem, ↓reduceIte, reduceCtorEq, reduceLT, reduceEqDiff, Nat.reduceBEq, reduceAdd, reduceMul, reduceSub, reduceLeDiff, reduceReplicate]
  refine Fz.int ?_
  first | rfl | (rw [szF_pos (by omega)]; omega)
theorem eqConstructor (a b : Constructor) (ha : a.ok) : Sp Tryz.prog 140 [.ag a.ds, .ag b.ds] (B (decide (a = b))) := by
  match a, b, ha with
  | .mk a0 a1, .mk b0 b1, ha =>
  simp only [Constructor.ok] at ha
  obtain ⟨o0, o1, p1⟩ := ha
  refine Sp.of_vc [] [.tmp 4] Tryz.func140 rfl (by kernel_rfl) Tryz.ntmps140 rfl (by simp) ?_
  simp only [Constructor.ds, go_sem, ↓reduceIte, reduceCtorEq, reduceLT, reduceEqDiff, Nat.reduceBEq, reduceAdd, reduceMul, reduceSub, reduceLeDiff, reduceReplicate]
  by_cases c0 : a0 = b0
  case neg =>
    have f0 : (!(a0.toList == b0.toList)) = true := by simp [bytes_eq, c0]
    simp only [f0, go_sem, ↓reduceIte, reduceCtorEq, reduceLT, reduceEqDiff, Nat.reduceBEq, reduceAdd, reduceMul, reduceSub, reduceLeDiff, reduceReplicate]
    exact Fz.bool (by simp [c0])
  have f0 : (!(a0.toList == b0.toList)) = false := by simp [bytes_eq, c0]
  simp only [f0, go_sem, ↓reduceIte, reduceCtorEq, reduceLT, reduceEqDiff, Nat.reduceBEq, reduceAdd, reduceMul, reduceSub, reduceLeDiff, reduceReplicate]
  refine callK_intro _ (eqTypeS _ _ o1 (fun x hx y => eqType x y (Typ.okS_mem p1 x hx))) (by simp only [List.nil_append, List.append_nil, List.forall_mem_cons]; exact ⟨Typ.cl_sl a1, Typ.cl_sl b1, by simp⟩) ?_
  by_cases c1 : a1 = b1
  case neg =>
    have f1 : decide (a1 = b1) = false := by simp [c1]
    simp only [f1, go_sem, ↓reduceIte, reduceCtorEq, reduceLT, reduceEqDiff, Nat.reduceBEq, reduceAdd, reduceMul, reduceSub, reduceLeDiff, reduceReplicate]
    refine Fz.bool ?_
    symm; rw [decide_eq_false_iff_not]; intro e; apply c1; injection e
  have f1 : decide (a1 = b1) = true := by rw [decide_eq_true_eq]; exact c1
  simp only [f1, go_sem, ↓reduceIte, reduceCtorEq, reduceLT, reduceEqDiff, Nat.reduceBEq, reduceAdd, reduceMul, reduceSub, reduceLeDiff, reduceReplicate]
  refine Fz.bool ?_
  symm; rw [decide_eq_true_eq, c0, c1]
theorem toConstructorG (a : Constructor) (ha : a.sz ≤ 1048576) : SpG Tryz.prog 129 [.ag a.ds] [] [] (.ag a.ds) := by
  match a, ha with
  | .mk a0 a1, ha =>
  rw [Constructor.sz] at ha
  refine SpG.of_vc [] [.cell 2 109] Tryz.func129 rfl (by kernel_rfl) Tryz.ntmps129 rfl (by simp) rfl ?_
  simp only [Constructor.ds, go_sem, ↓reduceIte, reduceCtorEq, reduceLT, reduceEqDiff, Nat.reduceBEq, reduceAdd, reduceMul, reduceSub, reduceLeDiff, reduceReplicate]
  refine callK_new _ (toTypeSG a1 (by omega) (fun x hx => toTypeG x (by have := Typ.sz_mem hx; omega))) (by simp only [List.nil_append, List.append_nil, List.forall_mem_cons]; exact ⟨Typ.cl_sl a1, by simp⟩) ?_
  intro e1 T1 hO1
  obtain ⟨a1_, n1_, c1_, F1_, rfl, rfl⟩ := o3_sl hO1
  simp only [Constructor.ds, go_sem, ↓reduceIte, reduceCtorEq, reduceLT, reduceEqDiff, Nat.reduceBEq, reduceAdd, reduceMul, reduceSub, reduceLeDiff, reduceReplicate]
  refine closeK_ag ?_
  simp only [Constructor.ds, go_sem, List.cons_append, List.nil_append]
  repeat first | exact OL.nil | apply OL.sc' | apply OL.tr'
theorem toConstructor (a : Constructor) (ha : a.sz ≤ 1048576) : Sp Tryz.prog 129 [.ag a.ds] (.ag a.ds) := (toConstructorG a ha).sp
theorem szDataS (l : List Dat) (left : Int) (h0 : 0 ≤ left) (h2 : left ≤ 1048576) (hl : l.length ≤ maxLen)
    (hel : ∀ x ∈ l, ∀ left : Int, 0 ≤ left → left ≤ 1048576 → Sp Tryz.prog 51 [.ag x.ds, I left] (I (szF x.sz left))) : Sp Tryz.prog 21 [Dat.sl l, I left] (I (szF (l.length + Dat.szS l) left)) := by
  unfold maxLen at hl
  have ew : IntKind.i64.wrap (left - (l.length : Int)) = left - l.length := Go.IntWalk.i64_in _ (by omega)
  have hdl : (Dat.dsL l).length = l.length := Dat.dsL_len l
  refine Sp.of_vc [] [.tmp 4] Tryz.func21 rfl (by kernel_rfl) Tryz.ntmps21 rfl (by simp) ?_
  simp only [go_sem, ↓reduceIte, reduceCtorEq, reduceLT, reduceEqDiff, Nat.reduceBEq, reduceAdd, reduceMul, reduceSub, reduceLeDiff, reduceReplicate, hdl, ew]
  refine condK_split (fun h => ?_) (fun h => ?_)
  · simp only [h, go_sem, ↓reduceIte, reduceCtorEq, reduceLT, reduceEqDiff, Nat.reduceBEq, reduceAdd, reduceMul, reduceSub, reduceLeDiff, reduceReplicate]
    refine Fz.int ?_
    simp at h; rw [szF_neg (by omega)]
  · have hle : (l.length : Int) ≤ left := by simp at h; omega
    simp only [h, go_sem, ↓reduceIte, reduceCtorEq, reduceLT, reduceEqDiff, Nat.reduceBEq, reduceAdd, reduceMul, reduceSub, reduceLeDiff, reduceReplicate]
    refine loop_count 5 l.length (fun k => Fw.Inv 27 [(0, Dat.sl l), (1, I (left - l.length - Dat.szS (l.take k)))] ((l.length : Int) + Dat.szS (l.take k) ≤ left)) rfl ⟨rfl, by simp [Dat.sl, envOf, setE, Dat.szS_eq], by simp [Dat.szS_eq]; omega⟩ ?_
    rintro k ⟨env, H, n, nt⟩ hk h5 ⟨rfl, hfs, hp⟩
    simp only [List.forall_mem_cons, Dat.sl] at h5 hfs
    obtain ⟨e0, e1, -⟩ := hfs
    simp only [h5, e0, e1, hdl, go_sem, ↓reduceIte, reduceCtorEq, reduceLT, reduceEqDiff, Nat.reduceBEq, reduceAdd, reduceMul, reduceSub, reduceLeDiff, reduceReplicate]
    refine condK_split (fun h => ?_) (fun h => ?_)
    · have hlt : k < l.length := by simpa using h
      have g0 := Dat.dsL_get l k hlt
      have hds := Dat.ds_len l[k]
      have htk : List.take 2 l[k].ds = l[k].ds := List.take_of_length_le (by omega)
      have hst := Dat.szS_take l k hlt
      have hsl := Dat.szS_le l (k + 1)
      simp only [h, h5, e0, e1, g0, hds, htk, hdl, go_sem, ↓reduceIte, reduceCtorEq, reduceLT, reduceEqDiff, Nat.reduceBEq, reduceAdd, reduceMul, reduceSub, reduceLeDiff, reduceReplicate]
      refine callK_intro _ (hel l[k] (List.getElem_mem hlt) _ (by omega) (by omega)) (by simp; exact Dat.cl _) ?_
      by_cases hc : (l[k].sz : Int) ≤ left - l.length - Dat.szS (l.take k)
      · have ec : decide (left - (l.length : Int) - Dat.szS (l.take k) - (l[k].sz : Int) < 0) = false := by simp; omega
        simp only [szF_pos hc, ec, h5, go_sem, ↓reduceIte, reduceCtorEq, reduceLT, reduceEqDiff, Nat.reduceBEq, reduceAdd, reduceMul, reduceSub, reduceLeDiff, reduceReplicate]
        refine nextC_mk (by simp [setE, wrap_succ k (by omega)]) hlt ⟨rfl, ?_, by omega⟩
        simp only [List.forall_mem_cons, setE, ↓reduceIte, Nat.reduceEqDiff, e0, Dat.sl, List.not_mem_nil, false_implies, implies_true, and_true, true_and]
        rw [hst]; exact congrArg (fun n => D.sc (.int .i64 n)) (by omega)
      · simp only [szF_neg hc, Int.reduceNeg, Int.reduceLT, go_sem, ↓reduceIte, reduceCtorEq, reduceLT, reduceEqDiff, Nat.reduceBEq, reduceAdd, reduceMul, reduceSub, reduceLeDiff, reduceReplicate]
        refine Fz.int ?_
        rw [szF_neg (by omega)]
    · have hk' : k = l.length := by simp at h; omega
      subst hk'
      simp only [h, e1, go_sem, ↓reduceIte, reduceCtorEq, reduceLT, reduceEqDiff, Nat.reduceBEq, reduceAdd, reduceMul, reduceSub, reduceLeDiff, reduceReplicate]
      refine Fz.int ?_
      rw [List.take_length] at hp ⊢
      rw [szF_pos (by omega)]; omega
theorem eqDataS (a b : List Dat) (ha : a.length ≤ maxLen) (hel : ∀ x ∈ a, ∀ y, Sp Tryz.prog 74 [.ag x.ds, .ag y.ds] (B (decide (x = y)))) : Sp Tryz.prog 36 [Dat.sl a, Dat.sl b] (B (decide (a = b))) := by
  unfold maxLen at ha
  have hda : (Dat.dsL a).length = a.length := Dat.dsL_len a
  have hdb : (Dat.dsL b).length = b.length := Dat.dsL_len b
  refine Sp.of_vc [] [.tmp 4] Tryz.func36 rfl (by kernel_rfl) Tryz.ntmps36 rfl (by simp) ?_
  simp only [go_sem, ↓reduceIte, reduceCtorEq, reduceLT, reduceEqDiff, Nat.reduceBEq, reduceAdd, reduceMul, reduceSub, reduceLeDiff, reduceReplicate, hda, hdb]
  refine condK_split (fun h => ?_) (fun h => ?_)
  · simp only [h, go_sem, ↓reduceIte, reduceCtorEq, reduceLT, reduceEqDiff, Nat.reduceBEq, reduceAdd, reduceMul, reduceSub, reduceLeDiff, reduceReplicate]
    refine Fz.bool ?_
    simp at h ⊢
    intro e; subst e; simp at h
  · have hl : a.length = b.length := by simp at h; omega
    simp only [h, go_sem, ↓reduceIte, reduceCtorEq, reduceLT, reduceEqDiff, Nat.reduceBEq, reduceAdd, reduceMul, reduceSub, reduceLeDiff, reduceReplicate]
    refine loop_count 5 a.length (fun k => Fw.Inv 27 [(0, Dat.sl a), (1, Dat.sl b)] (a.take k = b.take k)) rfl ⟨rfl, by simp [Dat.sl, envOf, setE], by simp⟩ ?_
    rintro k ⟨env, H, n, nt⟩ hk h5 ⟨rfl, hfs, hp⟩
    simp only [List.forall_mem_cons, Dat.sl] at h5 hfs
    obtain ⟨e0, e1, -⟩ := hfs
    simp only [h5, e0, e1, hda, go_sem, ↓reduceIte, reduceCtorEq, reduceLT, reduceEqDiff, Nat.reduceBEq, reduceAdd, reduceMul, reduceSub, reduceLeDiff, reduceReplicate]
    refine condK_split (fun h => ?_) (fun h => ?_)
    · have hlt : k < a.length := by simpa using h
      have hlb : k < b.length := by omega
      have g0 := Dat.dsL_get a k hlt
      have g1 := Dat.dsL_get b k hlb
      have hd0 := Dat.ds_len a[k]
      have hd1 := Dat.ds_len b[k]
      have ht0 : List.take 2 a[k].ds = a[k].ds := List.take_of_length_le (by omega)
      have ht1 : List.take 2 b[k].ds = b[k].ds := List.take_of_length_le (by omega)
      simp only [h, h5, e0, e1, g0, g1, hd0, hd1, ht0, ht1, go_sem, ↓reduceIte, reduceCtorEq, reduceLT, reduceEqDiff, Nat.reduceBEq, reduceAdd, reduceMul, reduceSub, reduceLeDiff, reduceReplicate]
      refine drawK_intro mixed (by kernel_rfl) ?_
      refine callQ_intro _ (hel a[k] (List.getElem_mem hlt) b[k]) (by simp; exact ⟨Dat.cl _, Dat.cl _⟩) rfl ?_
      by_cases hc : a[k] = b[k]
      · have ec : decide (a[k] = b[k]) = true := by simp [hc]
        simp only [ec, h5, go_sem, ↓reduceIte, reduceCtorEq, reduceLT, reduceEqDiff, Nat.reduceBEq, reduceAdd, reduceMul, reduceSub, reduceLeDiff, reduceReplicate]
        refine nextC_mk (by simp [setE, wrap_succ k (by omega)]) hlt ⟨rfl, by simp [setE, e0, e1, Dat.sl], ?_⟩
        rw [List.take_succ_eq_append_getElem hlt, List.take_succ_eq_append_getElem hlb, hp, hc]
      · have ec : decide (a[k] = b[k]) = false := by simp [hc]
        simp only [ec, go_sem, ↓reduceIte, reduceCtorEq, reduceLT, reduceEqDiff, Nat.reduceBEq, reduceAdd, reduceMul, reduceSub, reduceLeDiff, reduceReplicate]
        refine Fz.bool ?_
        simp
        intro e; subst e; exact hc rfl
    · have hk' : k = a.length := by simp at h; omega
      simp only [h, go_sem, ↓reduceIte, reduceCtorEq, reduceLT, reduceEqDiff, Nat.reduceBEq, reduceAdd, reduceMul, reduceSub, reduceLeDiff, reduceReplicate]
      refine Fz.bool ?_
      rw [hk', List.take_length, hl, List.take_length] at hp
      simp [hp]
theorem toDataSG (l : List Dat) (hl : l.length ≤ 1048576) (hel : ∀ x ∈ l, SpG Tryz.prog 62 [.ag x.ds] [] [] (.ag x.ds)) : SpG Tryz.prog 28 [Dat.sl l] [] [] (Dat.sl l) := by
  have hdl : (Dat.dsL l).length = l.length := Dat.dsL_len l
  refine SpG.of_vc [] [.tmp 2] Tryz.func28 rfl (by kernel_rfl) Tryz.ntmps28 rfl (by simp) rfl ?_
  simp only [go_sem, ↓reduceIte, reduceCtorEq, reduceLT, reduceEqDiff, Nat.reduceBEq, reduceAdd, reduceMul, reduceSub, reduceLeDiff, reduceReplicate, hdl]
  refine ⟨⟨by omega, by omega⟩, ?_⟩
  refine loop_count 4 l.length (fun k => Fw.InvT 23 [(0, Dat.sl l), (3, .ms 7 0 l.length)] fun H n T => n = bump noN 7 ∧ ∃ cs, OL O1 (Dat.dsL (l.take k)).flatten cs T ∧ H 7 = some ⟨0, 107, 2, cs ++ (List.replicate (l.length - k) [D.sc (.string ByteArray.empty), D.sc (.slice none 0 0)]).flatten, none⟩) rfl ⟨rfl, by simp [Dat.sl, envOf, setE], rfl, [], by simp [Dat.dsL_eq]; exact .nil, by simp [upd]⟩ ?_
  rintro k ⟨env, H, n, nt, T⟩ hk h5 ⟨rfl, hfs, hn, cs, hcs, hH⟩
  simp only [List.forall_mem_cons, Dat.sl] at h5 hfs hH
  simp only at hn hcs; subst hn
  obtain ⟨e0, e1, -⟩ := hfs
  simp only [h5, e0, e1, hdl, go_sem, ↓reduceIte, reduceCtorEq, reduceLT, reduceEqDiff, Nat.reduceBEq, reduceAdd, reduceMul, reduceSub, reduceLeDiff, reduceReplicate]
  refine condK_split (fun h => ?_) (fun h => ?_)
  · have hlt : k < l.length := by simpa using h
    have g0 := Dat.dsL_get l k hlt
    have hds := Dat.ds_len l[k]
    have htk : List.take 2 l[k].ds = l[k].ds := List.take_of_length_le (by omega)
    have hkl : ((k : Int) < (l.length : Int)) = True := eq_true (by omega)
    simp only [h, h5, e0, e1, g0, hds, htk, hkl, go_sem, ↓reduceIte, reduceCtorEq, reduceLT, reduceEqDiff, Nat.reduceBEq, reduceAdd, reduceMul, reduceSub, reduceLeDiff, reduceReplicate]
    refine callK_new _ (hel l[k] (List.getElem_mem hlt)) (by simp; exact Dat.cl _) ?_
    intro e T' hO
    obtain ⟨es, rfl, ho⟩ := o3_ag hO
    have hes : es.length = 2 := ho.len.trans hds
    simp only [h5, e0, e1, hes, hH, hkl, go_sem, ↓reduceIte, reduceCtorEq, reduceLT, reduceEqDiff, Nat.reduceBEq, reduceAdd, reduceMul, reduceSub, reduceLeDiff, reduceReplicate]
    have hz : ([D.sc (.string ByteArray.empty), D.sc (.slice none 0 0)] : List D).length = 2 := rfl
    have hcl : cs.length = k * 2 := by
      have h1 := hcs.len
      rw [flatten_len (Dat.rows_len _), Dat.dsL_len, List.length_take] at h1
      omega
    have hfl := flatten_len (sz := 2) (rows := List.replicate (l.length - k) [D.sc (.string ByteArray.empty), D.sc (.slice none 0 0)]) (by
      intro r hr; rw [List.eq_of_mem_replicate hr]; exact hz)
    simp only [List.length_replicate] at hfl
    refine ⟨⟨by rw [List.length_append, hfl, hcl]; omega, by rw [List.all_eq_true]; exact ho.one (Dat.one l[k])⟩, ?_⟩
    refine nextC_mk (by simp [setE, wrap_succ k (by omega)]) hlt ⟨rfl, by simp [setE, e0, e1, Dat.sl], rfl, cs ++ es, ?_, ?_⟩
    · have := hcs.app ho
      rw [Dat.dsL_eq] at this ⊢
      rw [List.take_succ_eq_append_getElem hlt, List.map_append, List.flatten_append]
      simpa using this
    · simp only [upd, ↓reduceIte, Option.some.injEq, Ob.mk.injEq, true_and, and_true]
      rw [replicate_split _ hlt]
      exact put_flat hcl hz rfl
  · have hk' : k = l.length := by simp at h; omega
    subst hk'
    simp only [h, e1, go_sem, ↓reduceIte, reduceCtorEq, reduceLT, reduceEqDiff, Nat.reduceBEq, reduceAdd, reduceMul, reduceSub, reduceLeDiff, reduceReplicate]
    rw [List.take_length] at hcs
    refine closeK_rows hH rfl rfl (by decide) hdl.symm (Dat.rows_len l) (by simpa using hcs)
theorem toDataS (l : List Dat) (hl : l.length ≤ 1048576) (hel : ∀ x ∈ l, SpG Tryz.prog 62 [.ag x.ds] [] [] (.ag x.ds)) : Sp Tryz.prog 28 [Dat.sl l] (Dat.sl l) := (toDataSG l hl hel).sp
theorem szData (a : Dat) (left : Int) (h0 : 0 ≤ left) (h2 : left ≤ 1048576) (ha : a.ok) : Sp Tryz.prog 51 [.ag a.ds, I left] (I (szF a.sz left)) := by
  match a, ha with
  | .mk a0 a1, ha =>
  simp only [Dat.ok] at ha
  obtain ⟨o0, o1, p1⟩ := ha
  rw [Dat.sz]
  refine Sp.of_vc [] [.tmp 4] Tryz.func51 rfl (by kernel_rfl) Tryz.ntmps51 rfl (by simp) ?_
  simp only [Dat.ds, go_sem, ↓reduceIte, reduceCtorEq, reduceLT, reduceEqDiff, Nat.reduceBEq, reduceAdd, reduceMul, reduceSub, reduceLeDiff, reduceReplicate]
  have w0 : IntKind.i64.wrap (left - (a0.size : Int)) = left - (a0.size : Int) := Go.IntWalk.i64_in _ (by unfold maxLen at o0; omega)
  simp only [w0, go_sem, ↓reduceIte, reduceCtorEq, reduceLT, reduceEqDiff, Nat.reduceBEq, reduceAdd, reduceMul, reduceSub, reduceLeDiff, reduceReplicate]
  by_cases c0 : (a0.size : Int) ≤ left
  case neg =>
    have f0 : decide (left - (a0.size : Int) < 0) = true := by simp; omega
    simp only [f0, go_sem, ↓reduceIte, reduceCtorEq, reduceLT, reduceEqDiff, Nat.reduceBEq, reduceAdd, reduceMul, reduceSub, reduceLeDiff, reduceReplicate]
    refine Fz.int ?_
    first | rfl | rw [szF_neg (by omega)]
  have f0 : decide (left - (a0.size : Int) < 0) = false := by simp; omega
  simp only [f0, go_sem, ↓reduceIte, reduceCtorEq, reduceLT, reduceEqDiff, Nat.reduceBEq, reduceAdd, reduceMul, reduceSub, reduceLeDiff, reduceReplicate]
  refine callK_intro _ (szConstructorS a1 _ (by omega) (by omega) o1 (fun x hx left g0 g2 => szConstructor x left g0 g2 (Constructor.okS_mem p1 x hx))) (by simp only [List.nil_append, List.append_nil, List.forall_mem_cons]; exact ⟨Constructor.cl_sl a1, by simp⟩) ?_
  by_cases c1 : (((a1.length + Constructor.szS a1) : Nat) : Int) ≤ left - (a0.size : Int)
  case neg =>
    simp only [szF_neg c1, Int.reduceNeg, Int.reduceLT, go_sem, ↓reduceIte, reduceCtorEq, reduceLT, reduceEqDiff, Nat.reduceBEq, reduceAdd, reduceMul, reduceSub, reduceLeDiff, reduceReplicate]
    refine Fz.int ?_
    first | rfl | rw [szF_neg (by omega)]
  have f1 : decide (left - (a0.size : Int) - (((a1.length + Constructor.szS a1) : Nat) : Int) < 0) = false := by simp only [decide_eq_false_iff_not]; omega
  simp only [szF_pos c1, f1, go_sem, ↓reduceIte, reduceCtorEq, reduceLT, reduceEqDiff, Nat.reduceBEq, reduceAdd, reduceMul, reduceSub, reduceLeDiff, reduceReplicate]
  refine Fz.int ?_
  first | rfl | (rw [szF_pos (by omega)]; omega)
theorem eqData (a b : Dat) (ha : a.ok) : Sp Tryz.prog 74 [.ag a.ds, .ag b.ds] (B (decide (a = b))) := by
  match a, b, ha with
  | .mk a0 a1, .mk b0 b1, ha =>
  simp only [Dat.ok] at ha
  obtain ⟨o0, o1, p1⟩ := ha
  refine Sp.of_vc [] [.tmp 4] Tryz.func74 rfl (by kernel_rfl) Tryz.ntmps74 rfl (by simp) ?_
  simp only [Dat.ds, go_sem, ↓reduceIte, reduceCtorEq, reduceLT, reduceEqDiff, Nat.reduceBEq, reduceAdd, reduceMul, reduceSub, reduceLeDiff, reduceReplicate]
  by_cases c0 : a0 = b0
  case neg =>
    have f0 : (!(a0.toList == b0.toList)) = true := by simp [bytes_eq, c0]
    simp only [f0, go_sem, ↓reduceIte, reduceCtorEq, reduceLT, reduceEqDiff, Nat.reduceBEq, reduceAdd, reduceMul, reduceSub, reduceLeDiff, reduceReplicate]
    exact Fz.bool (by simp [c0])
  have f0 : (!(a0.toList == b0.toList)) = false := by simp [bytes_eq, c0]
  simp only [f0, go_sem, ↓reduceIte, reduceCtorEq, reduceLT, reduceEqDiff, Nat.reduceBEq, reduceAdd, reduceMul, reduceSub, reduceLeDiff, reduceReplicate]
  refine callK_intro _ (eqConstructorS _ _ o1 (fun x hx y => eqConstructor x y (Constructor.okS_mem p1 x hx))) (by simp only [List.nil_append, List.append_nil, List.forall_mem_cons]; exact ⟨Constructor.cl_sl a1, Constructor.cl_sl b1, by simp⟩) ?_
  by_cases c1 : a1 = b1
  case neg =>
    have f1 : decide (a1 = b1) = false := by simp [c1]
    simp only [f1, go_sem, ↓reduceIte, reduceCtorEq, reduceLT, reduceEqDiff, Nat.reduceBEq, reduceAdd, reduceMul, reduceSub, reduceLeDiff, reduceReplicate]
    refine Fz.bool ?_
    symm; rw [decide_eq_false_iff_not]; intro e; apply c1; injection e
  have f1 : decide (a1 = b1) = true := by rw [decide_eq_true_eq]; exact c1
  simp only [f1, go_sem, ↓reduceIte, reduceCtorEq, reduceLT, reduceEqDiff, Nat.reduceBEq, reduceAdd, reduceMul, reduceSub, reduceLeDiff, reduceReplicate]
  refine Fz.bool ?_
  symm; rw [decide_eq_true_eq, c0, c1]
theorem toDataG (a : Dat) (ha : a.sz ≤ 1048576) : SpG Tryz.prog 62 [.ag a.ds] [] [] (.ag a.ds) := by
  match a, ha with
  | .mk a0 a1, ha =>
  rw [Dat.sz] at ha
  refine SpG.of_vc [] [.cell 2 107] Tryz.func62 rfl (by kernel_rfl) Tryz.ntmps62 rfl (by simp) rfl ?_
  simp only [Dat.ds, go_sem, ↓reduceIte, reduceCtorEq, reduceLT, reduceEqDiff, Nat.reduceBEq, reduceAdd, reduceMul, reduceSub, reduceLeDiff, reduceReplicate]
  refine callK_new _ (toConstructorSG a1 (by omega) (fun x hx => toConstructorG x (by have := Constructor.sz_mem hx; omega))) (by simp only [List.nil_append, List.append_nil, List.forall_mem_cons]; exact ⟨Constructor.cl_sl a1, by simp⟩) ?_
  intro e1 T1 hO1
  obtain ⟨a1_, n1_, c1_, F1_, rfl, rfl⟩ := o3_sl hO1
  simp only [Dat.ds, go_sem, ↓reduceIte, reduceCtorEq, reduceLT, reduceEqDiff, Nat.reduceBEq, reduceAdd, reduceMul, reduceSub, reduceLeDiff, reduceReplicate]
  refine closeK_ag ?_
  simp only [Dat.ds, go_sem, List.cons_append, List.nil_append]
  repeat first | exact OL.nil | apply OL.sc' | apply OL.tr'
theorem toData (a : Dat) (ha : a.sz ≤ 1048576) : Sp Tryz.prog 62 [.ag a.ds] (.ag a.ds) := (toDataG a ha).sp
theorem szTermS (l : List Term) (left : Int) (h0 : 0 ≤ left) (h2 : left ≤ 1048576) (hl : l.length ≤ maxLen)
    (hel : ∀ x ∈ l, ∀ left : Int, 0 ≤ left → left ≤ 1048576 → Sp Tryz.prog 24 [.ag x.ds, I left] (I (szF x.sz left))) : Sp Tryz.prog 54 [Term.sl l, I left] (I (szF (l.length + Term.szS l) left)) := by
  unfold maxLen at hl
  have ew : IntKind.i64.wrap (left - (l.length : Int)) = left - l.length := Go.IntWalk.i64_in _ (by omega)
  have hdl : (Term.dsL l).length = l.length := Term.dsL_len l
  refine Sp.of_vc [] [.tmp 4] Tryz.func54 rfl (by kernel_rfl) Tryz.ntmps54 rfl (by simp) ?_
  simp only [go_sem, ↓reduceIte, reduceCtorEq, reduceLT, reduceEqDiff, Nat.reduceBEq, reduceAdd, reduceMul, reduceSub, reduceLeDiff, reduceReplicate, hdl, ew]
  refine condK_split (fun h => ?_) (fun h => ?_)
  · simp only [h, go_sem, ↓reduceIte, reduceCtorEq, reduceLT, reduceEqDiff, Nat.reduceBEq, reduceAdd, reduceMul, reduceSub, reduceLeDiff, reduceReplicate]
    refine Fz.int ?_
    simp at h; rw [szF_neg (by omega)]
  · have hle : (l.length : Int) ≤ left := by simp at h; omega
    simp only [h, go_sem, ↓reduceIte, reduceCtorEq, reduceLT, reduceEqDiff, Nat.reduceBEq, reduceAdd, reduceMul, reduceSub, reduceLeDiff, reduceReplicate]
    refine loop_count 5 l.length (fun k => Fw.Inv 27 [(0, Term.sl l), (1, I (left - l.length - Term.szS (l.take k)))] ((l.length : Int) + Term.szS (l.take k) ≤ left)) rfl ⟨rfl, by simp [Term.sl, envOf, setE, Term.szS_eq], by simp [Term.szS_eq]; omega⟩ ?_
    rintro k ⟨env, H, n, nt⟩ hk h5 ⟨rfl, hfs, hp⟩
    simp only [List.forall_mem_cons, Term.sl] at h5 hfs
    obtain ⟨e0, e1, -⟩ := hfs
    simp only [h5, e0, e1, hdl, go_sem, ↓reduceIte, reduceCtorEq, reduceLT, reduceEqDiff, Nat.reduceBEq, reduceAdd, reduceMul, reduceSub, reduceLeDiff, reduceReplicate]
    refine condK_split (fun h => ?_) (fun h => ?_)
    · have hlt : k < l.length := by simpa using h
      have g0 := Term.dsL_get l k hlt
      have hds := Term.ds_len l[k]
      have htk : List.take 8 l[k].ds = l[k].ds := List.take_of_length_le (by omega)
      have hst := Term.szS_take l k hlt
      have hsl := Term.szS_le l (k + 1)
      simp only [h, h5, e0, e1, g0, hds, htk, hdl, go_sem, ↓reduceIte, reduceCtorEq, reduceLT, reduceEqDiff, Nat.reduceBEq, reduceAdd, reduceMul, reduceSub, reduceLeDiff, reduceReplicate]
      refine callK_intro _ (hel l[k] (List.getElem_mem hlt) _ (by omega) (by omega)) (by simp; exact Term.cl _) ?_
      by_cases hc : (l[k].sz : Int) ≤ left - l.length - Term.szS (l.take k)
      · have ec : decide (left - (l.length : Int) - Term.szS (l.take k) - (l[k].sz : Int) < 0) = false := by simp; omega
        simp only [szF_pos hc, ec, h5, go_sem, ↓reduceIte, reduceCtorEq, reduceLT, reduceEqDiff, Nat.reduceBEq, reduceAdd, reduceMul, reduceSub, reduceLeDiff, reduceReplicate]
        refine nextC_mk (by simp [setE, wrap_succ k (by omega)]) hlt ⟨rfl, ?_, by omega⟩
        simp only [List.forall_mem_cons, setE, ↓reduceIte, Nat.reduceEqDiff, e0, Term.sl, List.not_mem_nil, false_implies, implies_true, and_true, true_and]
        rw [hst]; exact congrArg (fun n => D.sc (.int .i64 n)) (by omega)
      · simp only [szF_neg hc, Int.reduceNeg, Int.reduceLT, go_sem, ↓reduceIte, reduceCtorEq, reduceLT, reduceEqDiff, Nat.reduceBEq, reduceAdd, reduceMul, reduceSub, reduceLeDiff, reduceReplicate]
        refine Fz.int ?_
        rw [szF_neg (by omega)]
    · have hk' : k = l.length := by simp at h; omega
      subst hk'
      simp only [h, e1, go_sem, ↓reduceIte, reduceCtorEq, reduceLT, reduceEqDiff, Nat.reduceBEq, reduceAdd, reduceMul, reduceSub, reduceLeDiff, reduceReplicate]
      refine Fz.int ?_
      rw [List.take_length] at hp ⊢
      rw [szF_pos (by omega)]; omega
theorem eqTermS (a b : List Term) (ha : a.length ≤ maxLen) (hel : ∀ x ∈ a, ∀ y, Sp Tryz.prog 39 [.ag x.ds, .ag y.ds] (B (decide (x = y)))) : Sp Tryz.prog 77 [Term.sl a, Term.sl b] (B (decide (a = b))) := by
  unfold maxLen at ha
  have hda : (Term.dsL a).length = a.length := Term.dsL_len a
  have hdb : (Term.dsL b).length = b.length := Term.dsL_len b
  refine Sp.of_vc [] [.tmp 4] Tryz.func77 rfl (by kernel_rfl) Tryz.ntmps77 rfl (by simp) ?_
  simp only [go_sem, ↓reduceIte, reduceCtorEq, reduceLT, reduceEqDiff, Nat.reduceBEq, reduceAdd, reduceMul, reduceSub, reduceLeDiff, reduceReplicate, hda, hdb]
  refine condK_split (fun h => ?_) (fun h => ?_)
  · simp only [h, go_sem, ↓reduceIte, reduceCtorEq, reduceLT, reduceEqDiff, Nat.reduceBEq, reduceAdd, reduceMul, reduceSub, reduceLeDiff, reduceReplicate]
    refine Fz.bool ?_
    simp at h ⊢
    intro e; subst e; simp at h
  · have hl : a.length = b.length := by simp at h; omega
    simp only [h, go_sem, ↓reduceIte, reduceCtorEq, reduceLT, reduceEqDiff, Nat.reduceBEq, reduceAdd, reduceMul, reduceSub, reduceLeDiff, reduceReplicate]
    refine loop_count 5 a.length (fun k => Fw.Inv 27 [(0, Term.sl a), (1, Term.sl b)] (a.take k = b.take k)) rfl ⟨rfl, by simp [Term.sl, envOf, setE], by simp⟩ ?_
    rintro k ⟨env, H, n, nt⟩ hk h5 ⟨rfl, hfs, hp⟩
    simp only [List.forall_mem_cons, Term.sl] at h5 hfs
    obtain ⟨e0, e1, -⟩ := hfs
    simp only [h5, e0, e1, hda, go_sem, ↓reduceIte, reduceCtorEq, reduceLT, reduceEqDiff, Nat.reduceBEq, reduceAdd, reduceMul, reduceSub, reduceLeDiff, reduceReplicate]
    refine condK_split (fun h => ?_) (fun h => ?_)
    · have hlt : k < a.length := by simpa using h
      have hlb : k < b.length := by omega
      have g0 := Term.dsL_get a k hlt
      have g1 := Term.dsL_get b k hlb
      have hd0 := Term.ds_len a[k]
      have hd1 := Term.ds_len b[k]
      have ht0 : List.take 8 a[k].ds = a[k].ds := List.take_of_length_le (by omega)
      have ht1 : List.take 8 b[k].ds = b[k].ds := List.take_of_length_le (by omega)
      simp only [h, h5, e0, e1, g0, g1, hd0, hd1, ht0, ht1, go_sem, ↓reduceIte, reduceCtorEq, reduceLT, reduceEqDiff, Nat.reduceBEq, reduceAdd, reduceMul, reduceSub, reduceLeDiff, reduceReplicate]
      refine drawK_intro mixed (by kernel_rfl) ?_
      refine callQ_intro _ (hel a[k] (List.getElem_mem hlt) b[k]) (by simp; exact ⟨Term.cl _, Term.cl _⟩) rfl ?_
      by_cases hc : a[k] = b[k]
      · have ec : decide (a[k] = b[k]) = true := by simp [hc]
        simp only [ec, h5, go_sem, ↓reduceIte, reduceCtorEq, reduceLT, reduceEqDiff, Nat.reduceBEq, reduceAdd, reduceMul, reduceSub, reduceLeDiff, reduceReplicate]
        refine nextC_mk (by simp [setE, wrap_succ k (by omega)]) hlt ⟨rfl, by simp [setE, e0, e1, Term.sl], ?_⟩
        rw [List.take_succ_eq_append_getElem hlt, List.take_succ_eq_append_getElem hlb, hp, hc]
      · have ec : decide (a[k] = b[k]) = false := by simp [hc]
        simp only [ec, go_sem, ↓reduceIte, reduceCtorEq, reduceLT, reduceEqDiff, Nat.reduceBEq, reduceAdd, reduceMul, reduceSub, reduceLeDiff, reduceReplicate]
        refine Fz.bool ?_
        simp
        intro e; subst e; exact hc rfl
    · have hk' : k = a.length := by simp at h; omega
      simp only [h, go_sem, ↓reduceIte, reduceCtorEq, reduceLT, reduceEqDiff, Nat.reduceBEq, reduceAdd, reduceMul, reduceSub, reduceLeDiff, reduceReplicate]
      refine Fz.bool ?_
      rw [hk', List.take_length, hl, List.take_length] at hp
      simp [hp]
theorem toTermSG (l : List Term) (hl : l.length ≤ 1048576) (hel : ∀ x ∈ l, SpG Tryz.prog 31 [.ag x.ds] [] [] (.ag x.ds)) : SpG Tryz.prog 65 [Term.sl l] [] [] (Term.sl l) := by
  have hdl : (Term.dsL l).length = l.length := Term.dsL_len l
  refine SpG.of_vc [] [.tmp 2] Tryz.func65 rfl (by kernel_rfl) Tryz.ntmps65 rfl (by simp) rfl ?_
  simp only [go_sem, ↓reduceIte, reduceCtorEq, reduceLT, reduceEqDiff, Nat.reduceBEq, reduceAdd, reduceMul, reduceSub, reduceLeDiff, reduceReplicate, hdl]
  refine ⟨⟨by omega, by omega⟩, ?_⟩
  refine loop_count 4 l.length (fun k => Fw.InvT 23 [(0, Term.sl l), (3, .ms 7 0 l.length)] fun H n T => n = bump noN 7 ∧ ∃ cs, OL O1 (Term.dsL (l.take k)).flatten cs T ∧ H 7 = some ⟨0, 49, 8, cs ++ (List.replicate (l.length - k) [D.sc (.int .i64 0), D.sc (.int .i64 0), D.sc (.string ByteArray.empty), D.sc (.int .i64 0), D.sc (.string ByteArray.empty), D.sc (.slice none 0 0), D.sc (.slice none 0 0), D.sc (.slice none 0 0)]).flatten, none⟩) rfl ⟨rfl, by simp [Term.sl, envOf, setE], rfl, [], by simp [Term.dsL_eq]; exact .nil, by simp [upd]⟩ ?_
  rintro k ⟨env, H, n, nt, T⟩ hk h5 ⟨rfl, hfs, hn, cs, hcs, hH⟩
  simp only [List.forall_mem_cons, Term.sl] at h5 hfs hH
  simp only at hn hcs; subst hn
  obtain ⟨e0, e1, -⟩ := hfs
  simp only [h5, e0, e1, hdl, go_sem, ↓reduceIte, reduceCtorEq, reduceLT, reduceEqDiff, Nat.reduceBEq, reduceAdd, reduceMul, reduceSub, reduceLeDiff, reduceReplicate]
  refine condK_split (fun h => ?_) (fun h => ?_)
  · have hlt : k < l.length := by simpa using h
    have g0 := Term.dsL_get l k hlt
    have hds := Term.ds_len l[k]
    have htk : List.take 8 l[k].ds = l[k].ds := List.take_of_length_le (by omega)
    have hkl : ((k : Int) < (l.length : Int)) = True := eq_true (by omega)
    simp only [h, h5, e0, e1, g0, hds, htk, hkl, go_sem, ↓reduceIte, reduceCtorEq, reduceLT, reduceEqDiff, Nat.reduceBEq, reduceAdd, reduceMul, reduceSub, reduceLeDiff, reduceReplicate]
    refine callK_new _ (hel l[k] (List.getElem_mem hlt)) (by simp; exact Term.cl _) ?_
    intro e T' hO
    obtain ⟨es, rfl, ho⟩ := o3_ag hO
    have hes : es.length = 8 := ho.len.trans hds
    simp only [h5, e0, e1, hes, hH, hkl, go_sem, ↓reduceIte, reduceCtorEq, reduceLT, reduceEqDiff, Nat.reduceBEq, reduceAdd, reduceMul, reduceSub, reduceLeDiff, reduceReplicate]
    have hz : ([D.sc (.int .i64 0), D.sc (.int .i64 0), D.sc (.string ByteArray.empty), D.sc (.int .i64 0), D.sc (.string ByteArray.empty), D.sc (.slice none 0 0), D.sc (.slice none 0 0), D.sc (.slice none 0 0)] : List D).length = 8 := rfl
    have hcl : cs.length = k * 8 := by
      have h1 := hcs.len
      rw [flatten_len (Term.rows_len _), Term.dsL_len, List.length_take] at h1
      omega
    have hfl := flatten_len (sz := 8) (rows := List.replicate (l.length - k) [D.sc (.int .i64 0), D.sc (.int .i64 0), D.sc (.string ByteArray.empty), D.sc (.int .i64 0), D.sc (.string ByteArray.empty), D.sc (.slice none 0 0), D.sc (.slice none 0 0), D.sc (.slice none 0 0)]) (by
      intro r hr; rw [List.eq_of_mem_replicate hr]; exact hz)
    simp only [List.length_replicate] at hfl
    refine ⟨⟨by rw [List.length_append, hfl, hcl]; omega, by rw [List.all_eq_true]; exact ho.one (Term.one l[k])⟩, ?_⟩
    refine nextC_mk (by simp [setE, wrap_succ k (by omega)]) hlt ⟨rfl, by simp [setE, e0, e1, Term.sl], rfl, cs ++ es, ?_, ?_⟩
    · have := hcs.app ho
      rw [Term.dsL_eq] at this ⊢
      rw [List.take_succ_eq_append_getElem hlt, List.map_append, List.flatten_append]
      simpa using this
    · simp only [upd, ↓reduceIte, Option.some.injEq, Ob.mk.injEq, true_and, and_true]
      rw [replicate_split _ hlt]
      exact put_flat hcl hz rfl
  · have hk' : k = l.length := by simp at h; omega
    subst hk'
    simp only [h, e1, go_sem, ↓reduceIte, reduceCtorEq, reduceLT, reduceEqDiff, Nat.reduceBEq, reduceAdd, reduceMul, reduceSub, reduceLeDiff, reduceReplicate]
    rw [List.take_length] at hcs
    refine closeK_rows hH rfl rfl (by decide) hdl.symm (Term.rows_len l) (by simpa using hcs)
theorem toTermS (l : List Term) (hl : l.length ≤ 1048576) (hel : ∀ x ∈ l, SpG Tryz.prog 31 [.ag x.ds] [] [] (.ag x.ds)) : Sp Tryz.prog 65 [Term.sl l] (Term.sl l) := (toTermSG l hl hel).sp
theorem szTerm (a : Term) (left : Int) (h0 : 0 ≤ left) (h2 : left ≤ 1048576) (ha : a.ok) : Sp Tryz.prog 24 [.ag a.ds, I left] (I (szF a.sz left)) := by
  match a, ha with
  | .mk a0 a1 a2 (.mk a3_0 a3_1 a3_2) a4 a5, ha =>
  simp only [Term.ok] at ha
  obtain ⟨o2, o3, o4, p4, o5, p5⟩ := ha
  rw [Term.sz]
  refine Sp.of_vc [] [.tmp 4] Tryz.func24 rfl (by kernel_rfl) Tryz.ntmps24 rfl (by simp) ?_
  simp only [Term.ds, Typ.ds, go_sem, ↓reduceIte, reduceCtorEq, reduceLT, reduceEqDiff, Nat.reduceBEq, reduceAdd, reduceMul, reduceSub, reduceLeDiff, reduceReplicate]
  have w2 : IntKind.i64.wrap (left - (a2.size : Int)) = left - (a2.size : Int) := Go.IntWalk.i64_in _ (by unfold maxLen at o2; omega)
  simp only [w2, go_sem, ↓reduceIte, reduceCtorEq, reduceLT, reduceEqDiff, Nat.reduceBEq, reduceAdd, reduceMul, reduceSub, reduceLeDiff, reduceReplicate]
  by_cases c2 : (a2.size : Int) ≤ left
  case neg =>
    have f2 : decide (left - (a2.size : Int) < 0) = true := by simp; omega
    simp only [f2, go_sem, ↓reduceIte, reduceCtorEq, reduceLT, reduceEqDiff, Nat.reduceBEq, reduceAdd, reduceMul, reduceSub, reduceLeDiff, reduceReplicate]
    refine Fz.int ?_
    first | rfl | rw [szF_neg (by omega)]
  have f2 : decide (left - (a2.size : Int) < 0) = false := by simp; omega
  simp only [f2, go_sem, ↓reduceIte, reduceCtorEq, reduceLT, reduceEqDiff, Nat.reduceBEq, reduceAdd, reduceMul, reduceSub, reduceLeDiff, reduceReplicate]
  refine callK_intro _ (szType ((.mk a3_0 a3_1 a3_2) : Typ) _ (by omega) (by omega) o3) (by simp only [List.nil_append, List.append_nil, List.forall_mem_cons]; exact ⟨Cl.ag' (Typ.cl ((.mk a3_0 a3_1 a3_2) : Typ)), by simp⟩) ?_
  by_cases c3 : ((((.mk a3_0 a3_1 a3_2) : Typ).sz : Nat) : Int) ≤ left - (a2.size : Int)
  case neg =>
    simp only [szF_neg c3, Int.reduceNeg, Int.reduceLT, go_sem, ↓reduceIte, reduceCtorEq, reduceLT, reduceEqDiff, Nat.reduceBEq, reduceAdd, reduceMul, reduceSub, reduceLeDiff, reduceReplicate]
    refine Fz.int ?_
    first | rfl | rw [szF_neg (by omega)]
  have f3 : decide (left - (a2.size : Int) - ((((.mk a3_0 a3_1 a3_2) : Typ).sz : Nat) : Int) < 0) = false := by simp only [decide_eq_false_iff_not]; omega
  simp only [szF_pos c3, f3, go_sem, ↓reduceIte, reduceCtorEq, reduceLT, reduceEqDiff, Nat.reduceBEq, reduceAdd, reduceMul, reduceSub, reduceLeDiff, reduceReplicate]
  refine callK_intro _ (szStringS a4 _ (by omega) (by omega) o4 p4) (by simp only [List.nil_append, List.append_nil, List.forall_mem_cons]; exact ⟨cl_strs a4, by simp⟩) ?_
  by_cases c4 : (((a4.length + strSz a4) : Nat) : Int) ≤ left - (a2.size : Int) - ((((.mk a3_0 a3_1 a3_2) : Typ).sz : Nat) : Int)
  case neg =>
    simp only [szF_neg c4, Int.reduceNeg, Int.reduceLT, go_sem, ↓reduceIte, reduceCtorEq, reduceLT, reduceEqDiff, Nat.reduceBEq, reduceAdd, reduceMul, reduceSub, reduceLeDiff, reduceReplicate]
    refine Fz.int ?_
    first | rfl | rw [szF_neg (by omega)]
  have f4 : decide (left - (a2.size : Int) - ((((.mk a3_0 a3_1 a3_2) : Typ).sz : Nat) : Int) - (((a4.length + strSz a4) : Nat) : Int) < 0) = false := by simp only [decide_eq_false_iff_not]; omega
  simp only [szF_pos c4, f4, go_sem, ↓reduceIte, reduceCtorEq, reduceLT, reduceEqDiff, Nat.reduceBEq, reduceAdd, reduceMul, reduceSub, reduceLeDiff, reduceReplicate]
  refine callK_intro _ (szTermS a5 _ (by omega) (by omega) o5 (fun x hx left g0 g2 => szTerm x left g0 g2 (Term.okS_mem p5 x hx))) (by simp only [List.nil_append, List.append_nil, List.forall_mem_cons]; exact ⟨Term.cl_sl a5, by simp⟩) ?_
  by_cases c5 : (((a5.length + Term.szS a5) : Nat) : Int) ≤ left - (a2.size : Int) - ((((.mk a3_0 a3_1 a3_2) : Typ).sz : Nat) : Int) - (((a4.length + strSz a4) : Nat) : Int)
  case neg =>
    simp only [szF_neg c5, Int.reduceNeg, Int.reduceLT, go_sem, ↓reduceIte, reduceCtorEq, reduceLT, reduceEqDiff, Nat.reduceBEq, reduceAdd, reduceMul, reduceSub, reduceLeDiff, reduceReplicate]
    refine Fz.int ?_
    first | rfl | rw [szF_neg (by omega)]
  have f5 : decide (left - (a2.size : Int) - ((((.mk a3_0 a3_1 a3_2) : Typ).sz : Nat) : Int) - (((a4.length + strSz a4) : Nat) : Int) - (((a5.length + Term.szS a5) : Nat) : Int) < 0) = false := by simp only [decide_eq_false_iff_not]; omega
  simp only [szF_pos c5, f5, go_sem, ↓reduceIte, reduceCtorEq, reduceLT, reduceEqDiff, Nat.reduceBEq, reduceAdd, reduceMul, reduceSub, reduceLeDiff, reduceReplicate]
  refine Fz.int ?_
  first | rfl | (rw [szF_pos (by omega)]; omega)
termination_by a
decreasing_by all_goals (have := List.sizeOf_lt_of_mem hx; simp; omega)
theorem eqTerm (a b : Term) (ha : a.ok) : Sp Tryz.prog 39 [.ag a.ds, .ag b.ds] (B (decide (a = b))) := by
  match a, b, ha with
  | .mk a0 a1 a2 (.mk a3_0 a3_1 a3_2) a4 a5, .mk b0 b1 b2 (.mk b3_0 b3_1 b3_2) b4 b5, ha =>
  simp only [Term.ok] at ha
  obtain ⟨o2, o3, o4, p4, o5, p5⟩ := ha
  refine Sp.of_vc [] [.tmp 4] Tryz.func39 rfl (by kernel_rfl) Tryz.ntmps39 rfl (by simp) ?_
  simp only [Term.ds, Typ.ds, go_sem, ↓reduceIte, reduceCtorEq, reduceLT, reduceEqDiff, Nat.reduceBEq, reduceAdd, reduceMul, reduceSub, reduceLeDiff, reduceReplicate]
  by_cases c0 : a0 = b0
  case neg =>
    have f0 : (a0 != b0) = true := by simp [c0]
    simp only [f0, go_sem, ↓reduceIte, reduceCtorEq, reduceLT, reduceEqDiff, Nat.reduceBEq, reduceAdd, reduceMul, reduceSub, reduceLeDiff, reduceReplicate]
    exact Fz.bool (by simp [c0])
  have f0 : (a0 != b0) = false := by simp [c0]
  simp only [f0, go_sem, ↓reduceIte, reduceCtorEq, reduceLT, reduceEqDiff, Nat.reduceBEq, reduceAdd, reduceMul, reduceSub, reduceLeDiff, reduceReplicate]
  by_cases c1 : a1 = b1
  case neg =>
    have f1 : (a1 != b1) = true := by simp [c1]
    simp only [f1, go_sem, ↓reduceIte, reduceCtorEq, reduceLT, reduceEqDiff, Nat.reduceBEq, reduceAdd, reduceMul, reduceSub, reduceLeDiff, reduceReplicate]
    exact Fz.bool (by simp [c1])
  have f1 : (a1 != b1) = false := by simp [c1]
  simp only [f1, go_sem, ↓reduceIte, reduceCtorEq, reduceLT, reduceEqDiff, Nat.reduceBEq, reduceAdd, reduceMul, reduceSub, reduceLeDiff, reduceReplicate]
  by_cases c2 : a2 = b2
  case neg =>
    have f2 : (!(a2.toList == b2.toList)) = true := by simp [bytes_eq, c2]
    simp only [f2, go_sem, ↓reduceIte, reduceCtorEq, reduceLT, reduceEqDiff, Nat.reduceBEq, reduceAdd, reduceMul, reduceSub, reduceLeDiff, reduceReplicate]
    exact Fz.bool (by simp [c2])
  have f2 : (!(a2.toList == b2.toList)) = false := by simp [bytes_eq, c2]
  simp only [f2, go_sem, ↓reduceIte, reduceCtorEq, reduceLT, reduceEqDiff, Nat.reduceBEq, reduceAdd, reduceMul, reduceSub, reduceLeDiff, reduceReplicate]
  refine callK_intro _ (eqType ((.mk a3_0 a3_1 a3_2) : Typ) ((.mk b3_0 b3_1 b3_2) : Typ) o3) (by simp only [List.nil_append, List.append_nil, List.forall_mem_cons]; exact ⟨Cl.ag' (Typ.cl ((.mk a3_0 a3_1 a3_2) : Typ)), Cl.ag' (Typ.cl ((.mk b3_0 b3_1 b3_2) : Typ)), by simp⟩) ?_
  by_cases c3 : ((.mk a3_0 a3_1 a3_2) : Typ) = ((.mk b3_0 b3_1 b3_2) : Typ)
  case neg =>
    have f3 : decide (((.mk a3_0 a3_1 a3_2) : Typ) = ((.mk b3_0 b3_1 b3_2) : Typ)) = false := by simp [c3]
    simp only [f3, go_sem, ↓reduceIte, reduceCtorEq, reduceLT, reduceEqDiff, Nat.reduceBEq, reduceAdd, reduceMul, reduceSub, reduceLeDiff, reduceReplicate]
    refine Fz.bool ?_
    symm; rw [decide_eq_false_iff_not]; intro e; apply c3; injection e
  have f3 : decide (((.mk a3_0 a3_1 a3_2) : Typ) = ((.mk b3_0 b3_1 b3_2) : Typ)) = true := by rw [decide_eq_true_eq]; exact c3
  simp only [f3, go_sem, ↓reduceIte, reduceCtorEq, reduceLT, reduceEqDiff, Nat.reduceBEq, reduceAdd, reduceMul, reduceSub, reduceLeDiff, reduceReplicate]
  refine callK_intro _ (eqStringS _ _ o4) (by simp only [List.nil_append, List.append_nil, List.forall_mem_cons]; exact ⟨cl_strs a4, cl_strs b4, by simp⟩) ?_
  by_cases c4 : a4 = b4
  case neg =>
    have f4 : decide (a4 = b4) = false := by simp [c4]
    simp only [f4, go_sem, ↓reduceIte, reduceCtorEq, reduceLT, reduceEqDiff, Nat.reduceBEq, reduceAdd, reduceMul, reduceSub, reduceLeDiff, reduceReplicate]
    refine Fz.bool ?_
    symm; rw [decide_eq_false_iff_not]; intro e; apply c4; injection e
  have f4 : decide (a4 = b4) = true := by rw [decide_eq_true_eq]; exact c4
  simp only [f4, go_sem, ↓reduceIte, reduceCtorEq, reduceLT, reduceEqDiff, Nat.reduceBEq, reduceAdd, reduceMul, reduceSub, reduceLeDiff, reduceReplicate]
  refine callK_intro _ (eqTermS _ _ o5 (fun x hx y => eqTerm x y (Term.okS_mem p5 x hx))) (by simp only [List.nil_append, List.append_nil, List.forall_mem_cons]; exact ⟨Term.cl_sl a5, Term.cl_sl b5, by simp⟩) ?_
  by_cases c5 : a5 = b5
  case neg =>
    have f5 : decide (a5 = b5) = false := by simp [c5]
    simp only [f5, go_sem, ↓reduceIte, reduceCtorEq, reduceLT, reduceEqDiff, Nat.reduceBEq, reduceAdd, reduceMul, reduceSub, reduceLeDiff, reduceReplicate]
    refine Fz.bool ?_
    symm; rw [decide_eq_false_iff_not]; intro e; apply c5; injection e
  have f5 : decide (a5 = b5) = true := by rw [decide_eq_true_eq]; exact c5
  simp only [f5, go_sem, ↓reduceIte, reduceCtorEq, reduceLT, reduceEqDiff, Nat.reduceBEq, reduceAdd, reduceMul, reduceSub, reduceLeDiff, reduceReplicate]
  refine Fz.bool ?_
  symm; rw [decide_eq_true_eq, c0, c1, c2, c3, c4, c5]
termination_by a
decreasing_by all_goals (have := List.sizeOf_lt_of_mem hx; simp; omega)
theorem toTermG (a : Term) (ha : a.sz ≤ 1048576) : SpG Tryz.prog 31 [.ag a.ds] [] [] (.ag a.ds) := by
  match a, ha with
  | .mk a0 a1 a2 (.mk a3_0 a3_1 a3_2) a4 a5, ha =>
  rw [Term.sz] at ha
  refine SpG.of_vc [] [.cell 2 49] Tryz.func31 rfl (by kernel_rfl) Tryz.ntmps31 rfl (by simp) rfl ?_
  simp only [Term.ds, Typ.ds, go_sem, ↓reduceIte, reduceCtorEq, reduceLT, reduceEqDiff, Nat.reduceBEq, reduceAdd, reduceMul, reduceSub, reduceLeDiff, reduceReplicate]
  refine callK_new _ (toTypeG ((.mk a3_0 a3_1 a3_2) : Typ) (by omega)) (by simp only [List.nil_append, List.append_nil, List.forall_mem_cons]; exact ⟨Cl.ag' (Typ.cl ((.mk a3_0 a3_1 a3_2) : Typ)), by simp⟩) ?_
  intro e3 T3 hO3
  obtain ⟨es3, rfl, ho3⟩ := o3_ag hO3
  simp only [Term.ds, Typ.ds, go_sem, List.cons_append, List.nil_append, ol_sc, ol_sl, ol_nil] at ho3
  obtain ⟨_, rfl, ⟨_, rfl, ⟨a_, n_, c_, F_, _, _, rfl, rfl, ⟨rfl, rfl⟩⟩⟩⟩ := ho3
  simp only [Term.ds, Typ.ds, go_sem, ↓reduceIte, reduceCtorEq, reduceLT, reduceEqDiff, Nat.reduceBEq, reduceAdd, reduceMul, reduceSub, reduceLeDiff, reduceReplicate]
  refine callK_new _ (toStringSG a4 (by omega)) (by simp only [List.nil_append, List.append_nil, List.forall_mem_cons]; exact ⟨cl_strs a4, by simp⟩) ?_
  intro e4 T4 hO4
  obtain ⟨a4_, n4_, c4_, F4_, rfl, rfl⟩ := o3_sl hO4
  simp only [Term.ds, Typ.ds, go_sem, ↓reduceIte, reduceCtorEq, reduceLT, reduceEqDiff, Nat.reduceBEq, reduceAdd, reduceMul, reduceSub, reduceLeDiff, reduceReplicate]
  refine callK_new _ (toTermSG a5 (by omega) (fun x hx => toTermG x (by have := Term.sz_mem hx; omega))) (by simp only [List.nil_append, List.append_nil, List.forall_mem_cons]; exact ⟨Term.cl_sl a5, by simp⟩) ?_
  intro e5 T5 hO5
  obtain ⟨a5_, n5_, c5_, F5_, rfl, rfl⟩ := o3_sl hO5
  simp only [Term.ds, Typ.ds, go_sem, ↓reduceIte, reduceCtorEq, reduceLT, reduceEqDiff, Nat.reduceBEq, reduceAdd, reduceMul, reduceSub, reduceLeDiff, reduceReplicate]
  refine closeK_ag ?_
  simp only [Term.ds, Typ.ds, go_sem, List.cons_append, List.nil_append]
  repeat first | exact OL.nil | apply OL.sc' | apply OL.tr'
termination_by a
decreasing_by all_goals (have := List.sizeOf_lt_of_mem hx; simp; omega)
theorem toTerm (a : Term) (ha : a.sz ≤ 1048576) : Sp Tryz.prog 31 [.ag a.ds] (.ag a.ds) := (toTermG a ha).sp
theorem szDefS (l : List Def) (left : Int) (h0 : 0 ≤ left) (h2 : left ≤ 1048576) (hl : l.length ≤ maxLen)
    (hel : ∀ x ∈ l, ∀ left : Int, 0 ≤ left → left ≤ 1048576 → Sp Tryz.prog 6 [.ag x.ds, I left] (I (szF x.sz left))) : Sp Tryz.prog 22 [Def.sl l, I left] (I (szF (l.length + Def.szS l) left)) := by
  unfold maxLen at hl
  have ew : IntKind.i64.wrap (left - (l.length : Int)) = left - l.length := Go.IntWalk.i64_in _ (by omega)
  have hdl : (Def.dsL l).length = l.length := Def.dsL_len l
  refine Sp.of_vc [] [.tmp 4] Tryz.func22 rfl (by kernel_rfl) Tryz.ntmps22 rfl (by simp) ?_
  simp only [go_sem, ↓reduceIte, reduceCtorEq, reduceLT, reduceEqDiff, Nat.reduceBEq, reduceAdd, reduceMul, reduceSub, reduceLeDiff, reduceReplicate, hdl, ew]
  refine condK_split (fun h => ?_) (fun h => ?_)
  · simp only [h, go_sem, ↓reduceIte, reduceCtorEq, reduceLT, reduceEqDiff, Nat.reduceBEq, reduceAdd, reduceMul, reduceSub, reduceLeDiff, reduceReplicate]
    refine Fz.int ?_
    simp at h; rw [szF_neg (by omega)]
  · have hle : (l.length : Int) ≤ left := by simp at h; omega
    simp only [h, go_sem, ↓reduceIte, reduceCtorEq, reduceLT, reduceEqDiff, Nat.reduceBEq, reduceAdd, reduceMul, reduceSub, reduceLeDiff, reduceReplicate]
    refine loop_count 5 l.length (fun k => Fw.Inv 27 [(0, Def.sl l), (1, I (left - l.length - Def.szS (l.take k)))] ((l.length : Int) + Def.szS (l.take k) ≤ left)) rfl ⟨rfl, by simp [Def.sl, envOf, setE, Def.szS_eq], by simp [Def.szS_eq]; omega⟩ ?_
    rintro k ⟨env, H, n, nt⟩ hk h5 ⟨rfl, hfs, hp⟩
    simp only [List.forall_mem_cons, Def.sl] at h5 hfs
    obtain ⟨e0, e1, -⟩ := hfs
    simp only [h5, e0, e1, hdl, go_sem, ↓reduceIte, reduceCtorEq, reduceLT, reduceEqDiff, Nat.reduceBEq, reduceAdd, reduceMul, reduceSub, reduceLeDiff, reduceReplicate]
    refine condK_split (fun h => ?_) (fun h => ?_)
    · have hlt : k < l.length := by simpa using h
      have g0 := Def.dsL_get l k hlt
      have hds := Def.ds_len l[k]
      have htk : List.take 12 l[k].ds = l[k].ds := List.take_of_length_le (by omega)
      have hst := Def.szS_take l k hlt
      have hsl := Def.szS_le l (k + 1)
      simp only [h, h5, e0, e1, g0, hds, htk, hdl, go_sem, ↓reduceIte, reduceCtorEq, reduceLT, reduceEqDiff, Nat.reduceBEq, reduceAdd, reduceMul, reduceSub, reduceLeDiff, reduceReplicate]
      refine callK_intro _ (hel l[k] (List.getElem_mem hlt) _ (by omega) (by omega)) (by simp; exact Def.cl _) ?_
      by_cases hc : (l[k].sz : Int) ≤ left - l.length - Def.szS (l.take k)
      · have ec : decide (left - (l.length : Int) - Def.szS (l.take k) - (l[k].sz : Int) < 0) = false := by simp; omega
        simp only [szF_pos hc, ec, h5, go_sem, ↓reduceIte, reduceCtorEq, reduceLT, reduceEqDiff, Nat.reduceBEq, reduceAdd, reduceMul, reduceSub, reduceLeDiff, reduceReplicate]
        refine nextC_mk (by simp [setE, wrap_succ k (by omega)]) hlt ⟨rfl, ?_, by omega⟩
        simp only [List.forall_mem_cons, setE, ↓reduceIte, Nat.reduceEqDiff, e0, Def.sl, List.not_mem_nil, false_implies, implies_true, and_true, true_and]
        rw [hst]; exact congrArg (fun n => D.sc (.int .i64 n)) (by omega)
      · simp only [szF_neg hc, Int.reduceNeg, Int.reduceLT, go_sem, ↓reduceIte, reduceCtorEq, reduceLT, reduceEqDiff, Nat.reduceBEq, reduceAdd, reduceMul, reduceSub, reduceLeDiff, reduceReplicate]
        refine Fz.int ?_
        rw [szF_neg (by omega)]
    · have hk' : k = l.length := by simp at h; omega
      subst hk'
      simp only [h, e1, go_sem, ↓reduceIte, reduceCtorEq, reduceLT, reduceEqDiff, Nat.reduceBEq, reduceAdd, reduceMul, reduceSub, reduceLeDiff, reduceReplicate]
      refine Fz.int ?_
      rw [List.take_length] at hp ⊢
      rw [szF_pos (by omega)]; omega
theorem eqDefS (a b : List Def) (ha : a.length ≤ maxLen) (hel : ∀ x ∈ a, ∀ y, Sp Tryz.prog 12 [.ag x.ds, .ag y.ds] (B (decide (x = y)))) : Sp Tryz.prog 37 [Def.sl a, Def.sl b] (B (decide (a = b))) := by
  unfold maxLen at ha
  have hda : (Def.dsL a).length = a.length := Def.dsL_len a
  have hdb : (Def.dsL b).length = b.length := Def.dsL_len b
  refine Sp.of_vc [] [.tmp 4] Tryz.func37 rfl (by kernel_rfl) Tryz.ntmps37 rfl (by simp) ?_
  simp only [go_sem, ↓reduceIte, reduceCtorEq, reduceLT, reduceEqDiff, Nat.reduceBEq, reduceAdd, reduceMul, reduceSub, reduceLeDiff, reduceReplicate, hda, hdb]
  refine condK_split (fun h => ?_) (fun h => ?_)
  · simp only [h, go_sem, ↓reduceIte, reduceCtorEq, reduceLT, reduceEqDiff, Nat.reduceBEq, reduceAdd, reduceMul, reduceSub, reduceLeDiff, reduceReplicate]
    refine Fz.bool ?_
    simp at h ⊢
    intro e; subst e; simp at h
  · have hl : a.length = b.length := by simp at h; omega
    simp only [h, go_sem, ↓reduceIte, reduceCtorEq, reduceLT, reduceEqDiff, Nat.reduceBEq, reduceAdd, reduceMul, reduceSub, reduceLeDiff, reduceReplicate]
    refine loop_count 5 a.length (fun k => Fw.Inv 27 [(0, Def.sl a), (1, Def.sl b)] (a.take k = b.take k)) rfl ⟨rfl, by simp [Def.sl, envOf, setE], by simp⟩ ?_
    rintro k ⟨env, H, n, nt⟩ hk h5 ⟨rfl, hfs, hp⟩
    simp only [List.forall_mem_cons, Def.sl] at h5 hfs
    obtain ⟨e0, e1, -⟩ := hfs
    simp only [h5, e0, e1, hda, go_sem, ↓reduceIte, reduceCtorEq, reduceLT, reduceEqDiff, Nat.reduceBEq, reduceAdd, reduceMul, reduceSub, reduceLeDiff, reduceReplicate]
    refine condK_split (fun h => ?_) (fun h => ?_)
    · have hlt : k < a.length := by simpa using h
      have hlb : k < b.length := by omega
      have g0 := Def.dsL_get a k hlt
      have g1 := Def.dsL_get b k hlb
      have hd0 := Def.ds_len a[k]
      have hd1 := Def.ds_len b[k]
      have ht0 : List.take 12 a[k].ds = a[k].ds := List.take_of_length_le (by omega)
      have ht1 : List.take 12 b[k].ds = b[k].ds := List.take_of_length_le (by omega)
      simp only [h, h5, e0, e1, g0, g1, hd0, hd1, ht0, ht1, go_sem, ↓reduceIte, reduceCtorEq, reduceLT, reduceEqDiff, Nat.reduceBEq, reduceAdd, reduceMul, reduceSub, reduceLeDiff, reduceReplicate]
      refine drawK_intro mixed (by kernel_rfl) ?_
      refine callQ_intro _ (hel a[k] (List.getElem_mem hlt) b[k]) (by simp; exact ⟨Def.cl _, Def.cl _⟩) rfl ?_
      by_cases hc : a[k] = b[k]
      · have ec : decide (a[k] = b[k]) = true := by simp [hc]
        simp only [ec, h5, go_sem, ↓reduceIte, reduceCtorEq, reduceLT, reduceEqDiff, Nat.reduceBEq, reduceAdd, reduceMul, reduceSub, reduceLeDiff, reduceReplicate]
        refine nextC_mk (by simp [setE, wrap_succ k (by omega)]) hlt ⟨rfl, by simp [setE, e0, e1, Def.sl], ?_⟩
        rw [List.take_succ_eq_append_getElem hlt, List.take_succ_eq_append_getElem hlb, hp, hc]
      · have ec : decide (a[k] = b[k]) = false := by simp [hc]
        simp only [ec, go_sem, ↓reduceIte, reduceCtorEq, reduceLT, reduceEqDiff, Nat.reduceBEq, reduceAdd, reduceMul, reduceSub, reduceLeDiff, reduceReplicate]
        refine Fz.bool ?_
        simp
        intro e; subst e; exact hc rfl
    · have hk' : k = a.length := by simp at h; omega
      simp only [h, go_sem, ↓reduceIte, reduceCtorEq, reduceLT, reduceEqDiff, Nat.reduceBEq, reduceAdd, reduceMul, reduceSub, reduceLeDiff, reduceReplicate]
      refine Fz.bool ?_
      rw [hk', List.take_length, hl, List.take_length] at hp
      simp [hp]
theorem toDefSG (l : List Def) (hl : l.length ≤ 1048576) (hel : ∀ x ∈ l, SpG Tryz.prog 9 [.ag x.ds] [] [] (.ag x.ds)) : SpG Tryz.prog 29 [Def.sl l] [] [] (Def.sl l) := by
  have hdl : (Def.dsL l).length = l.length := Def.dsL_len l
  refine SpG.of_vc [] [.tmp 2] Tryz.func29 rfl (by kernel_rfl) Tryz.ntmps29 rfl (by simp) rfl ?_
  simp only [go_sem, ↓reduceIte, reduceCtorEq, reduceLT, reduceEqDiff, Nat.reduceBEq, reduceAdd, reduceMul, reduceSub, reduceLeDiff, reduceReplicate, hdl]
  refine ⟨⟨by omega, by omega⟩, ?_⟩
  refine loop_count 4 l.length (fun k => Fw.InvT 23 [(0, Def.sl l), (3, .ms 7 0 l.length)] fun H n T => n = bump noN 7 ∧ ∃ cs, OL O1 (Def.dsL (l.take k)).flatten cs T ∧ H 7 = some ⟨0, 51, 12, cs ++ (List.replicate (l.length - k) [D.sc (.string ByteArray.empty), D.sc (.int .i64 0), D.sc (.string ByteArray.empty), D.sc (.slice none 0 0), D.sc (.int .i64 0), D.sc (.int .i64 0), D.sc (.string ByteArray.empty), D.sc (.int .i64 0), D.sc (.string ByteArray.empty), D.sc (.slice none 0 0), D.sc (.slice none 0 0), D.sc (.slice none 0 0)]).flatten, none⟩) rfl ⟨rfl, by simp [Def.sl, envOf, setE], rfl, [], by simp [Def.dsL_eq]; exact .nil, by simp [upd]⟩ ?_
  rintro k ⟨env, H, n, nt, T⟩ hk h5 ⟨rfl, hfs, hn, cs, hcs, hH⟩
  simp only [List.forall_mem_cons, Def.sl] at h5 hfs hH
  simp only at hn hcs; subst hn
  obtain ⟨e0, e1, -⟩ := hfs
  simp only [h5, e0, e1, hdl, go_sem, ↓reduceIte, reduceCtorEq, reduceLT, reduceEqDiff, Nat.reduceBEq, reduceAdd, reduceMul, reduceSub, reduceLeDiff, reduceReplicate]
  refine condK_split (fun h => ?_) (fun h => ?_)
  · have hlt : k < l.length := by simpa using h
    have g0 := Def.dsL_get l k hlt
    have hds := Def.ds_len l[k]
    have htk : List.take 12 l[k].ds = l[k].ds := List.take_of_length_le (by omega)
    have hkl : ((k : Int) < (l.length : Int)) = True := eq_true (by omega)
    simp only [h, h5, e0, e1, g0, hds, htk, hkl, go_sem, ↓reduceIte, reduceCtorEq, reduceLT, reduceEqDiff, Nat.reduceBEq, reduceAdd, reduceMul, reduceSub, reduceLeDiff, reduceReplicate]
    refine callK_new _ (hel l[k] (List.getElem_mem hlt)) (by simp; exact Def.cl _) ?_
    intro e T' hO
    obtain ⟨es, rfl, ho⟩ := o3_ag hO
    have hes : es.length = 12 := ho.len.trans hds
    simp only [h5, e0, e1, hes, hH, hkl, go_sem, ↓reduceIte, reduceCtorEq, reduceLT, reduceEqDiff, Nat.reduceBEq, reduceAdd, reduceMul, reduceSub, reduceLeDiff, reduceReplicate]
    have hz : ([D.sc (.string ByteArray.empty), D.sc (.int .i64 0), D.sc (.string ByteArray.empty), D.sc (.slice none 0 0), D.sc (.int .i64 0), D.sc (.int .i64 0), D.sc (.string ByteArray.empty), D.sc (.int .i64 0), D.sc (.string ByteArray.empty), D.sc (.slice none 0 0), D.sc (.slice none 0 0), D.sc (.slice none 0 0)] : List D).length = 12 := rfl
    have hcl : cs.length = k * 12 := by
      have h1 := hcs.len
      rw [flatten_len (Def.rows_len _), Def.dsL_len, List.length_take] at h1
      omega
    have hfl := flatten_len (sz := 12) (rows := List.replicate (l.length - k) [D.sc (.string ByteArray.empty), D.sc (.int .i64 0), D.sc (.string ByteArray.empty), D.sc (.slice none 0 0), D.sc (.int .i64 0), D.sc (.int .i64 0), D.sc (.string ByteArray.empty), D.sc (.int .i64 0), D.sc (.string ByteArray.empty), D.sc (.slice none 0 0), D.sc (.slice none 0 0), D.sc (.slice none 0 0)]) (by
      intro r hr; rw [List.eq_of_mem_replicate hr]; exact hz)
    simp only [List.length_replicate] at hfl
    refine ⟨⟨by rw [List.length_append, hfl, hcl]; omega, by rw [List.all_eq_true]; exact ho.one (Def.one l[k])⟩, ?_⟩
    refine nextC_mk (by simp [setE, wrap_succ k (by omega)]) hlt ⟨rfl, by simp [setE, e0, e1, Def.sl], rfl, cs ++ es, ?_, ?_⟩
    · have := hcs.app ho
      rw [Def.dsL_eq] at this ⊢
      rw [List.take_succ_eq_append_getElem hlt, List.map_append, List.flatten_append]
      simpa using this
    · simp only [upd, ↓reduceIte, Option.some.injEq, Ob.mk.injEq, true_and, and_true]
      rw [replicate_split _ hlt]
      exact put_flat hcl hz rfl
  · have hk' : k = l.length := by simp at h; omega
    subst hk'
    simp only [h, e1, go_sem, ↓reduceIte, reduceCtorEq, reduceLT, reduceEqDiff, Nat.reduceBEq, reduceAdd, reduceMul, reduceSub, reduceLeDiff, reduceReplicate]
    rw [List.take_length] at hcs
    refine closeK_rows hH rfl rfl (by decide) hdl.symm (Def.rows_len l) (by simpa using hcs)
theorem toDefS (l : List Def) (hl : l.length ≤ 1048576) (hel : ∀ x ∈ l, SpG Tryz.prog 9 [.ag x.ds] [] [] (.ag x.ds)) : Sp Tryz.prog 29 [Def.sl l] (Def.sl l) := (toDefSG l hl hel).sp
theorem szDef (a : Def) (left : Int) (h0 : 0 ≤ left) (h2 : left ≤ 1048576) (ha : a.ok) : Sp Tryz.prog 6 [.ag a.ds, I left] (I (szF a.sz left)) := by
  match a, ha with
  | .mk a0 (.mk a1_0 a1_1 a1_2) (.mk a2_0 a2_1 a2_2 (.mk a2_3_0 a2_3_1 a2_3_2) a2_4 a2_5), ha =>
  simp only [Def.ok] at ha
  obtain ⟨o0, o1, o2⟩ := ha
  rw [Def.sz]
  refine Sp.of_vc [] [.tmp 4] Tryz.func6 rfl (by kernel_rfl) Tryz.ntmps6 rfl (by simp) ?_
  simp only [Def.ds, Term.ds, Typ.ds, go_sem, ↓reduceIte, reduceCtorEq, reduceLT, reduceEqDiff, Nat.reduceBEq, reduceAdd, reduceMul, reduceSub, reduceLeDiff, reduceReplicate]
  have w0 : IntKind.i64.wrap (left - (a0.size : Int)) = left - (a0.size : Int) := Go.IntWalk.i64_in _ (by unfold maxLen at o0; omega)
  simp only [w0, go_sem, ↓reduceIte, reduceCtorEq, reduceLT, reduceEqDiff, Nat.reduceBEq, reduceAdd, reduceMul, reduceSub, reduceLeDiff, reduceReplicate]
  by_cases c0 : (a0.size : Int) ≤ left
  case neg =>
    have f0 : decide (left - (a0.size : Int) < 0) = true := by simp; omega
    simp only [f0, go_sem, ↓reduceIte, reduceCtorEq, reduceLT, reduceEqDiff, Nat.reduceBEq, reduceAdd, reduceMul, reduceSub, reduceLeDiff, reduceReplicate]
    refine Fz.int ?_
    first | rfl | rw [szF_neg (by omega)]
  have f0 : decide (left - (a0.size : Int) < 0) = false := by simp; omega
  simp only [f0, go_sem, ↓reduceIte, reduceCtorEq, reduceLT, reduceEqDiff, Nat.reduceBEq, reduceAdd, reduceMul, reduceSub, reduceLeDiff, reduceReplicate]
  refine callK_intro _ (szType ((.mk a1_0 a1_1 a1_2) : Typ) _ (by omega) (by omega) o1) (by simp only [List.nil_append, List.append_nil, List.forall_mem_cons]; exact ⟨Cl.ag' (Typ.cl ((.mk a1_0 a1_1 a1_2) : Typ)), by simp⟩) ?_
  by_cases c1 : ((((.mk a1_0 a1_1 a1_2) : Typ).sz : Nat) : Int) ≤ left - (a0.size : Int)
  case neg =>
    simp only [szF_neg c1, Int.reduceNeg, Int.reduceLT, go_sem, ↓reduceIte, reduceCtorEq, reduceLT, reduceEqDiff, Nat.reduceBEq, reduceAdd, reduceMul, reduceSub, reduceLeDiff, reduceReplicate]
    refine Fz.int ?_
    first | rfl | rw [szF_neg (by omega)]
  have f1 : decide (left - (a0.size : Int) - ((((.mk a1_0 a1_1 a1_2) : Typ).sz : Nat) : Int) < 0) = false := by simp only [decide_eq_false_iff_not]; omega
  simp only [szF_pos c1, f1, go_sem, ↓reduceIte, reduceCtorEq, reduceLT, reduceEqDiff, Nat.reduceBEq, reduceAdd, reduceMul, reduceSub, reduceLeDiff, reduceReplicate]
  refine callK_intro _ (szTerm ((.mk a2_0 a2_1 a2_2 (.mk a2_3_0 a2_3_1 a2_3_2) a2_4 a2_5) : Term) _ (by omega) (by omega) o2) (by simp only [List.nil_append, List.append_nil, List.forall_mem_cons]; exact ⟨Cl.ag' (Term.cl ((.mk a2_0 a2_1 a2_2 (.mk a2_3_0 a2_3_1 a2_3_2) a2_4 a2_5) : Term)), by simp⟩) ?_
  by_cases c2 : ((((.mk a2_0 a2_1 a2_2 (.mk a2_3_0 a2_3_1 a2_3_2) a2_4 a2_5) : Term).sz : Nat) : Int) ≤ left - (a0.size : Int) - ((((.mk a1_0 a1_1 a1_2) : Typ).sz : Nat) : Int)
  case neg =>
    simp only [szF_neg c2, Int.reduceNeg, Int.reduceLT, go_sem, ↓reduceIte, reduceCtorEq, reduceLT, reduceEqDiff, Nat.reduceBEq, reduceAdd, reduceMul, reduceSub, reduceLeDiff, reduceReplicate]
    refine Fz.int ?_
    first | rfl | rw [szF_neg (by omega)]
  have f2 : decide (left - (a0.size : Int) - ((((.mk a1_0 a1_1 a1_2) : Typ).sz : Nat) : Int) - ((((.mk a2_0 a2_1 a2_2 (.mk a2_3_0 a2_3_1 a2_3_2) a2_4 a2_5) : Term).sz : Nat) : Int) < 0) = false := by simp only [decide_eq_false_iff_not]; omega
  simp only [szF_pos c2, f2, go_sem, ↓reduceIte, reduceCtorEq, reduceLT, reduceEqDiff, Nat.reduceBEq, reduceAdd, reduceMul, reduceSub, reduceLeDiff, reduceReplicate]
  refine Fz.int ?_
  first | rfl | (rw [szF_pos (by omega)]; omega)
theorem eqDef (a b : Def) (ha : a.ok) : Sp Tryz.prog 12 [.ag a.ds, .ag b.ds] (B (decide (a = b))) := by
  match a, b, ha with
  | .mk a0 (.mk a1_0 a1_1 a1_2) (.mk a2_0 a2_1 a2_2 (.mk a2_3_0 a2_3_1 a2_3_2) a2_4 a2_5), .mk b0 (.mk b1_0 b1_1 b1_2) (.mk b2_0 b2_1 b2_2 (.mk b2_3_0 b2_3_1 b2_3_2) b2_4 b2_5), ha =>
  simp only [Def.ok] at ha
  obtain ⟨o0, o1, o2⟩ := ha
  refine Sp.of_vc [] [.tmp 4] Tryz.func12 rfl (by kernel_rfl) Tryz.ntmps12 rfl (by simp) ?_
  simp only [Def.ds, Term.ds, Typ.ds, go_sem, ↓reduceIte, reduceCtorEq, reduceLT, reduceEqDiff, Nat.reduceBEq, reduceAdd, reduceMul, reduceSub, reduceLeDiff, reduceReplicate]
  by_cases c0 : a0 = b0
  case neg =>
    have f0 : (!(a0.toList == b0.toList)) = true := by simp [bytes_eq, c0]
    simp only [f0, go_sem, ↓reduceIte, reduceCtorEq, reduceLT, reduceEqDiff, Nat.reduceBEq, reduceAdd, reduceMul, reduceSub, reduceLeDiff, reduceReplicate]
    exact Fz.bool (by simp [c0])
  have f0 : (!(a0.toList == b0.toList)) = false := by simp [bytes_eq, c0]
  simp only [f0, go_sem, ↓reduceIte, reduceCtorEq, reduceLT, reduceEqDiff, Nat.reduceBEq, reduceAdd, reduceMul, reduceSub, reduceLeDiff, reduceReplicate]
  refine callK_intro _ (eqType ((.mk a1_0 a1_1 a1_2) : Typ) ((.mk b1_0 b1_1 b1_2) : Typ) o1) (by simp only [List.nil_append, List.append_nil, List.forall_mem_cons]; exact ⟨Cl.ag' (Typ.cl ((.mk a1_0 a1_1 a1_2) : Typ)), Cl.ag' (Typ.cl ((.mk b1_0 b1_1 b1_2) : Typ)), by simp⟩) ?_
  by_cases c1 : ((.mk a1_0 a1_1 a1_2) : Typ) = ((.mk b1_0 b1_1 b1_2) : Typ)
  case neg =>
    have f1 : decide (((.mk a1_0 a1_1 a1_2) : Typ) = ((.mk b1_0 b1_1 b1_2) : Typ)) = false := by simp [c1]
    simp only [f1, go_sem, ↓reduceIte, reduceCtorEq, reduceLT, reduceEqDiff, Nat.reduceBEq, reduceAdd, reduceMul, reduceSub, reduceLeDiff, reduceReplicate]
    refine Fz.bool ?_
    symm; rw [decide_eq_false_iff_not]; intro e; apply c1; injection e
  have f1 : decide (((.mk a1_0 a1_1 a1_2) : Typ) = ((.mk b1_0 b1_1 b1_2) : Typ)) = true := by rw [decide_eq_true_eq]; exact c1
  simp only [f1, go_sem, ↓reduceIte, reduceCtorEq, reduceLT, reduceEqDiff, Nat.reduceBEq, reduceAdd, reduceMul, reduceSub, reduceLeDiff, reduceReplicate]
  refine callK_intro _ (eqTerm ((.mk a2_0 a2_1 a2_2 (.mk a2_3_0 a2_3_1 a2_3_2) a2_4 a2_5) : Term) ((.mk b2_0 b2_1 b2_2 (.mk b2_3_0 b2_3_1 b2_3_2) b2_4 b2_5) : Term) o2) (by simp only [List.nil_append, List.append_nil, List.forall_mem_cons]; exact ⟨Cl.ag' (Term.cl ((.mk a2_0 a2_1 a2_2 (.mk a2_3_0 a2_3_1 a2_3_2) a2_4 a2_5) : Term)), Cl.ag' (Term.cl ((.mk b2_0 b2_1 b2_2 (.mk b2_3_0 b2_3_1 b2_3_2) b2_4 b2_5) : Term)), by simp⟩) ?_
  by_cases c2 : ((.mk a2_0 a2_1 a2_2 (.mk a2_3_0 a2_3_1 a2_3_2) a2_4 a2_5) : Term) = ((.mk b2_0 b2_1 b2_2 (.mk b2_3_0 b2_3_1 b2_3_2) b2_4 b2_5) : Term)
  case neg =>
    have f2 : decide (((.mk a2_0 a2_1 a2_2 (.mk a2_3_0 a2_3_1 a2_3_2) a2_4 a2_5) : Term) = ((.mk b2_0 b2_1 b2_2 (.mk b2_3_0 b2_3_1 b2_3_2) b2_4 b2_5) : Term)) = false := by simp [c2]
    simp only [f2, go_sem, ↓reduceIte, reduceCtorEq, reduceLT, reduceEqDiff, Nat.reduceBEq, reduceAdd, reduceMul, reduceSub, reduceLeDiff, reduceReplicate]
    refine Fz.bool ?_
    symm; rw [decide_eq_false_iff_not]; intro e; apply c2; injection e
  have f2 : decide (((.mk a2_0 a2_1 a2_2 (.mk a2_3_0 a2_3_1 a2_3_2) a2_4 a2_5) : Term) = ((.mk b2_0 b2_1 b2_2 (.mk b2_3_0 b2_3_1 b2_3_2) b2_4 b2_5) : Term)) = true := by rw [decide_eq_true_eq]; exact c2
  simp only [f2, go_sem, ↓reduceIte, reduceCtorEq, reduceLT, reduceEqDiff, Nat.reduceBEq, reduceAdd, reduceMul, reduceSub, reduceLeDiff, reduceReplicate]
  refine Fz.bool ?_
  symm; rw [decide_eq_true_eq, c0, c1, c2]
theorem toDefG (a : Def) (ha : a.sz ≤ 1048576) : SpG Tryz.prog 9 [.ag a.ds] [] [] (.ag a.ds) := by
  match a, ha with
  | .mk a0 (.mk a1_0 a1_1 a1_2) (.mk a2_0 a2_1 a2_2 (.mk a2_3_0 a2_3_1 a2_3_2) a2_4 a2_5), ha =>
  rw [Def.sz] at ha
  refine SpG.of_vc [] [.cell 2 51] Tryz.func9 rfl (by kernel_rfl) Tryz.ntmps9 rfl (by simp) rfl ?_
  simp only [Def.ds, Term.ds, Typ.ds, go_sem, ↓reduceIte, reduceCtorEq, reduceLT, reduceEqDiff, Nat.reduceBEq, reduceAdd, reduceMul, reduceSub, reduceLeDiff, reduceReplicate]
  refine callK_new _ (toTypeG ((.mk a1_0 a1_1 a1_2) : Typ) (by omega)) (by simp only [List.nil_append, List.append_nil, List.forall_mem_cons]; exact ⟨Cl.ag' (Typ.cl ((.mk a1_0 a1_1 a1_2) : Typ)), by simp⟩) ?_
  intro e1 T1 hO1
  obtain ⟨es1, rfl, ho1⟩ := o3_ag hO1
  simp only [Def.ds, Term.ds, Typ.ds, go_sem, List.cons_append, List.nil_append, ol_sc, ol_sl, ol_nil] at ho1
  obtain ⟨_, rfl, ⟨_, rfl, ⟨a_, n_, c_, F_, _, _, rfl, rfl, ⟨rfl, rfl⟩⟩⟩⟩ := ho1
  simp only [Def.ds, Term.ds, Typ.ds, go_sem, ↓reduceIte, reduceCtorEq, reduceLT, reduceEqDiff, Nat.reduceBEq, reduceAdd, reduceMul, reduceSub, reduceLeDiff, reduceReplicate]
  refine callK_new _ (toTermG ((.mk a2_0 a2_1 a2_2 (.mk a2_3_0 a2_3_1 a2_3_2) a2_4 a2_5) : Term) (by omega)) (by simp only [List.nil_append, List.append_nil, List.forall_mem_cons]; exact ⟨Cl.ag' (Term.cl ((.mk a2_0 a2_1 a2_2 (.mk a2_3_0 a2_3_1 a2_3_2) a2_4 a2_5) : Term)), by simp⟩) ?_
  intro e2 T2 hO2
  obtain ⟨es2, rfl, ho2⟩ := o3_ag hO2
  simp only [Def.ds, Term.ds, Typ.ds, go_sem, List.cons_append, List.nil_append, ol_sc, ol_sl, ol_nil] at ho2
  obtain ⟨_, rfl, ⟨_, rfl, ⟨_, rfl, ⟨_, rfl, ⟨_, rfl, ⟨a_, n_, c_, F_, _, _, rfl, rfl, ⟨a_, n_, c_, F_, _, _, rfl, rfl, ⟨a_, n_, c_, F_, _, _, rfl, rfl, ⟨rfl, rfl⟩⟩⟩⟩⟩⟩⟩⟩⟩ := ho2
  simp only [Def.ds, Term.ds, Typ.ds, go_sem, ↓reduceIte, reduceCtorEq, reduceLT, reduceEqDiff, Nat.reduceBEq, reduceAdd, reduceMul, reduceSub, reduceLeDiff, reduceReplicate]
  refine closeK_ag ?_
  simp only [Def.ds, Term.ds, Typ.ds, go_sem, List.cons_append, List.nil_append]
  repeat first | exact OL.nil | apply OL.sc' | apply OL.tr'
theorem toDef (a : Def) (ha : a.sz ≤ 1048576) : Sp Tryz.prog 9 [.ag a.ds] (.ag a.ds) := (toDefG a ha).sp
theorem szProgram (a : Prg) (left : Int) (h0 : 0 ≤ left) (h2 : left ≤ 1048576) (ha : a.ok) : Sp Tryz.prog 5 [.ag a.ds, I left] (I (szF a.sz left)) := by
  match a, ha with
  | .mk a0 a1, ha =>
  simp only [Prg.ok] at ha
  obtain ⟨o0, p0, o1, p1⟩ := ha
  rw [Prg.sz]
  refine Sp.of_vc [] [.tmp 4] Tryz.func5 rfl (by kernel_rfl) Tryz.ntmps5 rfl (by simp) ?_
  simp only [Prg.ds, go_sem, ↓reduceIte, reduceCtorEq, reduceLT, reduceEqDiff, Nat.reduceBEq, reduceAdd, reduceMul, reduceSub, reduceLeDiff, reduceReplicate]
  refine callK_intro _ (szDataS a0 _ (by omega) (by omega) o0 (fun x hx left g0 g2 => szData x left g0 g2 (Dat.okS_mem p0 x hx))) (by simp only [List.nil_append, List.append_nil, List.forall_mem_cons]; exact ⟨Dat.cl_sl a0, by simp⟩) ?_
  by_cases c0 : (((a0.length + Dat.szS a0) : Nat) : Int) ≤ left
  case neg =>
    simp only [szF_neg c0, Int.reduceNeg, Int.reduceLT, go_sem, ↓reduceIte, reduceCtorEq, reduceLT, reduceEqDiff, Nat.reduceBEq, reduceAdd, reduceMul, reduceSub, reduceLeDiff, reduceReplicate]
    refine Fz.int ?_
    first | rfl | rw [szF_neg (by omega)]
  have f0 : decide (left - (((a0.length + Dat.szS a0) : Nat) : Int) < 0) = false := by simp only [decide_eq_false_iff_not]; omega
  simp only [szF_pos c0, f0, go_sem, ↓reduceIte, reduceCtorEq, reduceLT, reduceEqDiff, Nat.reduceBEq, reduceAdd, reduceMul, reduceSub, reduceLeDiff, reduceReplicate]
  refine callK_intro _ (szDefS a1 _ (by omega) (by omega) o1 (fun x hx left g0 g2 => szDef x left g0 g2 (Def.okS_mem p1 x hx))) (by simp only [List.nil_append, List.append_nil, List.forall_mem_cons]; exact ⟨Def.cl_sl a1, by simp⟩) ?_
  by_cases c1 : (((a1.length + Def.szS a1) : Nat) : Int) ≤ left - (((a0.length + Dat.szS a0) : Nat) : Int)
  case neg =>
    simp only [szF_neg c1, Int.reduceNeg, Int.reduceLT, go_sem, ↓reduceIte, reduceCtorEq, reduceLT, reduceEqDiff, Nat.reduceBEq, reduceAdd, reduceMul, reduceSub, reduceLeDiff, reduceReplicate]
    refine Fz.int ?_
    first | rfl | rw [szF_neg (by omega)]
  have f1 : decide (left - (((a0.length + Dat.szS a0) : Nat) : Int) - (((a1.length + Def.szS a1) : Nat) : Int) < 0) = false := by simp only [decide_eq_false_iff_not]; omega
  simp only [szF_pos c1, f1, go_sem, ↓reduceIte, reduceCtorEq, reduceLT, reduceEqDiff, Nat.reduceBEq, reduceAdd, reduceMul, reduceSub, reduceLeDiff, reduceReplicate]
  refine Fz.int ?_
  first | rfl | (rw [szF_pos (by omega)]; omega)
theorem eqProgram (a b : Prg) (ha : a.ok) : Sp Tryz.prog 11 [.ag a.ds, .ag b.ds] (B (decide (a = b))) := by
  match a, b, ha with
  | .mk a0 a1, .mk b0 b1, ha =>
  simp only [Prg.ok] at ha
  obtain ⟨o0, p0, o1, p1⟩ := ha
  refine Sp.of_vc [] [.tmp 4] Tryz.func11 rfl (by kernel_rfl) Tryz.ntmps11 rfl (by simp) ?_
  simp only [Prg.ds, go_sem, ↓reduceIte, reduceCtorEq, reduceLT, reduceEqDiff, Nat.reduceBEq, reduceAdd, reduceMul, reduceSub, reduceLeDiff, reduceReplicate]
  refine callK_intro _ (eqDataS _ _ o0 (fun x hx y => eqData x y (Dat.okS_mem p0 x hx))) (by simp only [List.nil_append, List.append_nil, List.forall_mem_cons]; exact ⟨Dat.cl_sl a0, Dat.cl_sl b0, by simp⟩) ?_
  by_cases c0 : a0 = b0
  case neg =>
    have f0 : decide (a0 = b0) = false := by simp [c0]
    simp only [f0, go_sem, ↓reduceIte, reduceCtorEq, reduceLT, reduceEqDiff, Nat.reduceBEq, reduceAdd, reduceMul, reduceSub, reduceLeDiff, reduceReplicate]
    refine Fz.bool ?_
    symm; rw [decide_eq_false_iff_not]; intro e; apply c0; injection e
  have f0 : decide (a0 = b0) = true := by rw [decide_eq_true_eq]; exact c0
  simp only [f0, go_sem, ↓reduceIte, reduceCtorEq, reduceLT, reduceEqDiff, Nat.reduceBEq, reduceAdd, reduceMul, reduceSub, reduceLeDiff, reduceReplicate]
  refine callK_intro _ (eqDefS _ _ o1 (fun x hx y => eqDef x y (Def.okS_mem p1 x hx))) (by simp only [List.nil_append, List.append_nil, List.forall_mem_cons]; exact ⟨Def.cl_sl a1, Def.cl_sl b1, by simp⟩) ?_
  by_cases c1 : a1 = b1
  case neg =>
    have f1 : decide (a1 = b1) = false := by simp [c1]
    simp only [f1, go_sem, ↓reduceIte, reduceCtorEq, reduceLT, reduceEqDiff, Nat.reduceBEq, reduceAdd, reduceMul, reduceSub, reduceLeDiff, reduceReplicate]
    refine Fz.bool ?_
    symm; rw [decide_eq_false_iff_not]; intro e; apply c1; injection e
  have f1 : decide (a1 = b1) = true := by rw [decide_eq_true_eq]; exact c1
  simp only [f1, go_sem, ↓reduceIte, reduceCtorEq, reduceLT, reduceEqDiff, Nat.reduceBEq, reduceAdd, reduceMul, reduceSub, reduceLeDiff, reduceReplicate]
  refine Fz.bool ?_
  symm; rw [decide_eq_true_eq, c0, c1]
theorem toProgramG (a : Prg) (ha : a.sz ≤ 1048576) : SpG Tryz.prog 8 [.ag a.ds] [] [] (.ag a.ds) := by
  match a, ha with
  | .mk a0 a1, ha =>
  rw [Prg.sz] at ha
  refine SpG.of_vc [] [.cell 2 40] Tryz.func8 rfl (by kernel_rfl) Tryz.ntmps8 rfl (by simp) rfl ?_
  simp only [Prg.ds, go_sem, ↓reduceIte, reduceCtorEq, reduceLT, reduceEqDiff, Nat.reduceBEq, reduceAdd, reduceMul, reduceSub, reduceLeDiff, reduceReplicate]
  refine callK_new _ (toDataSG a0 (by omega) (fun x hx => toDataG x (by have := Dat.sz_mem hx; omega))) (by simp only [List.nil_append, List.append_nil, List.forall_mem_cons]; exact ⟨Dat.cl_sl a0, by simp⟩) ?_
  intro e0 T0 hO0
  obtain ⟨a0_, n0_, c0_, F0_, rfl, rfl⟩ := o3_sl hO0
  simp only [Prg.ds, go_sem, ↓reduceIte, reduceCtorEq, reduceLT, reduceEqDiff, Nat.reduceBEq, reduceAdd, reduceMul, reduceSub, reduceLeDiff, reduceReplicate]
  refine callK_new _ (toDefSG a1 (by omega) (fun x hx => toDefG x (by have := Def.sz_mem hx; omega))) (by simp only [List.nil_append, List.append_nil, List.forall_mem_cons]; exact ⟨Def.cl_sl a1, by simp⟩) ?_
  intro e1 T1 hO1
  obtain ⟨a1_, n1_, c1_, F1_, rfl, rfl⟩ := o3_sl hO1
  simp only [Prg.ds, go_sem, ↓reduceIte, reduceCtorEq, reduceLT, reduceEqDiff, Nat.reduceBEq, reduceAdd, reduceMul, reduceSub, reduceLeDiff, reduceReplicate]
  refine closeK_ag ?_
  simp only [Prg.ds, go_sem, List.cons_append, List.nil_append]
  repeat first | exact OL.nil | apply OL.sc' | apply OL.tr'
theorem toProgram (a : Prg) (ha : a.sz ≤ 1048576) : Sp Tryz.prog 8 [.ag a.ds] (.ag a.ds) := (toProgramG a ha).sp
end Go.Proofs.YtcidmkcicagpaaaGreat
