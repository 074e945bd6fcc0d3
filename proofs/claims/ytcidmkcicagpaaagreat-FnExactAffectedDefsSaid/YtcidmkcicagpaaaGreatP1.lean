/-
  Contracts over data of names: letters, digits, keywords, names of both cases, of the program and of the reference. No condition.
-/
import Derived.Test.YtcidmkcicagpaaaGreatVs
import Derived.Test.YtcidmkcicagpaaaGreatFw6
set_option maxRecDepth 100000
set_option linter.unusedSimpArgs false
set_option linter.unusedVariables false
namespace Go.Proofs.YtcidmkcicagpaaaGreat
open Go.Fw
open Nat (reduceLT reduceEqDiff reduceAdd reduceMul reduceSub reduceLeDiff)
open List (reduceReplicate)
abbrev U (n : Int) : D := .sc (.int .u8 n)
def smallB (n : Int) : Bool := decide (97 ≤ n) && decide (n ≤ 122)
def capB (n : Int) : Bool := decide (65 ≤ n) && decide (n ≤ 90)
def digB (n : Int) : Bool := decide (48 ≤ n) && decide (n ≤ 57)
def letB (n : Int) : Bool := smallB n || capB n
def wordB (n : Int) : Bool := smallB n || capB n || digB n
def bs (s : ByteArray) : List Int := s.data.toList.map fun c => (c.toNat : Int)
def b0 (s : ByteArray) : Int := (bs s).headD 0
theorem bs_len (s : ByteArray) : (bs s).length = s.size := by rw [bs, List.length_map, Array.length_toList]; rfl
theorem head0 : ∀ (l : List Int) (h : 0 < l.length), l[0] = l.headD 0
  | [], h => by simp at h
  | a :: l, _ => rfl
theorem bs_get (s : ByteArray) (k : Nat) (h : k < s.size) : s[k]? = some s[k] ∧ ((s[k]).toNat : Int) = (bs s)[k]'(by rw [bs_len]; exact h) := by
  refine ⟨getElem?_pos s k h, ?_⟩
  simp only [bs, List.getElem_map, Array.getElem_toList]
  rfl
theorem bs_zero (s : ByteArray) (h : 0 < s.size) : s[0]? = some s[0] ∧ ((s[0]).toNat : Int) = b0 s := by
  obtain ⟨h1, h2⟩ := bs_get s 0 h
  refine ⟨h1, ?_⟩
  rw [h2, b0]
  exact head0 _ _
theorem isSmall (n : Int) : Sp Tryz.prog 106 [U n] (B (smallB n)) := by
  refine Sp.of_vc [] [.tmp 2] Tryz.func106 rfl (by kernel_rfl) Tryz.ntmps106 rfl (by simp) ?_
  simp only [go_sem, ↓reduceIte, reduceCtorEq, reduceLT, reduceEqDiff, Nat.reduceBEq, reduceAdd, reduceMul, reduceSub, reduceLeDiff, reduceReplicate]
  by_cases h1 : n ≥ 97
  · simp only [decide_eq_true h1, go_sem, ↓reduceIte, reduceCtorEq, reduceLT, reduceEqDiff, Nat.reduceBEq, reduceAdd, reduceMul, reduceSub, reduceLeDiff, reduceReplicate]
    exact Fz.bool (by simp [smallB]; omega)
  · simp only [decide_eq_false h1, go_sem, ↓reduceIte, reduceCtorEq, reduceLT, reduceEqDiff, Nat.reduceBEq, reduceAdd, reduceMul, reduceSub, reduceLeDiff, reduceReplicate]
    exact Fz.bool (by simp [smallB]; omega)
theorem isCapital (n : Int) : Sp Tryz.prog 130 [U n] (B (capB n)) := by
  refine Sp.of_vc [] [.tmp 2] Tryz.func130 rfl (by kernel_rfl) Tryz.ntmps130 rfl (by simp) ?_
  simp only [go_sem, ↓reduceIte, reduceCtorEq, reduceLT, reduceEqDiff, Nat.reduceBEq, reduceAdd, reduceMul, reduceSub, reduceLeDiff, reduceReplicate]
  by_cases h1 : n ≥ 65
  · simp only [decide_eq_true h1, go_sem, ↓reduceIte, reduceCtorEq, reduceLT, reduceEqDiff, Nat.reduceBEq, reduceAdd, reduceMul, reduceSub, reduceLeDiff, reduceReplicate]
    exact Fz.bool (by simp [capB]; omega)
  · simp only [decide_eq_false h1, go_sem, ↓reduceIte, reduceCtorEq, reduceLT, reduceEqDiff, Nat.reduceBEq, reduceAdd, reduceMul, reduceSub, reduceLeDiff, reduceReplicate]
    exact Fz.bool (by simp [capB]; omega)
theorem isDigit (n : Int) : Sp Tryz.prog 136 [U n] (B (digB n)) := by
  refine Sp.of_vc [] [.tmp 2] Tryz.func136 rfl (by kernel_rfl) Tryz.ntmps136 rfl (by simp) ?_
  simp only [go_sem, ↓reduceIte, reduceCtorEq, reduceLT, reduceEqDiff, Nat.reduceBEq, reduceAdd, reduceMul, reduceSub, reduceLeDiff, reduceReplicate]
  by_cases h1 : n ≥ 48
  · simp only [decide_eq_true h1, go_sem, ↓reduceIte, reduceCtorEq, reduceLT, reduceEqDiff, Nat.reduceBEq, reduceAdd, reduceMul, reduceSub, reduceLeDiff, reduceReplicate]
    exact Fz.bool (by simp [digB]; omega)
  · simp only [decide_eq_false h1, go_sem, ↓reduceIte, reduceCtorEq, reduceLT, reduceEqDiff, Nat.reduceBEq, reduceAdd, reduceMul, reduceSub, reduceLeDiff, reduceReplicate]
    exact Fz.bool (by simp [digB]; omega)
theorem l01Digit (n : Int) : Sp Tryz.prog 126 [U n] (B (digB n)) := by
  refine Sp.of_vc [] [.tmp 2] Tryz.func126 rfl (by kernel_rfl) Tryz.ntmps126 rfl (by simp) ?_
  simp only [go_sem, ↓reduceIte, reduceCtorEq, reduceLT, reduceEqDiff, Nat.reduceBEq, reduceAdd, reduceMul, reduceSub, reduceLeDiff, reduceReplicate]
  by_cases h1 : n ≥ 48
  · simp only [decide_eq_true h1, go_sem, ↓reduceIte, reduceCtorEq, reduceLT, reduceEqDiff, Nat.reduceBEq, reduceAdd, reduceMul, reduceSub, reduceLeDiff, reduceReplicate]
    exact Fz.bool (by simp [digB]; omega)
  · simp only [decide_eq_false h1, go_sem, ↓reduceIte, reduceCtorEq, reduceLT, reduceEqDiff, Nat.reduceBEq, reduceAdd, reduceMul, reduceSub, reduceLeDiff, reduceReplicate]
    exact Fz.bool (by simp [digB]; omega)
theorem l01Letter (n : Int) : Sp Tryz.prog 124 [U n] (B (letB n)) := by
  refine Sp.of_vc [] [.tmp 2] Tryz.func124 rfl (by kernel_rfl) Tryz.ntmps124 rfl (by simp) ?_
  simp only [go_sem, ↓reduceIte, reduceCtorEq, reduceLT, reduceEqDiff, Nat.reduceBEq, reduceAdd, reduceMul, reduceSub, reduceLeDiff, reduceReplicate]
  by_cases h1 : n ≥ 97
  · simp only [decide_eq_true h1, go_sem, ↓reduceIte, reduceCtorEq, reduceLT, reduceEqDiff, Nat.reduceBEq, reduceAdd, reduceMul, reduceSub, reduceLeDiff, reduceReplicate]
    by_cases h2 : n ≤ 122
    · simp only [decide_eq_true h2, go_sem, ↓reduceIte, reduceCtorEq, reduceLT, reduceEqDiff, Nat.reduceBEq, reduceAdd, reduceMul, reduceSub, reduceLeDiff, reduceReplicate]
      refine Fz.bool ?_
      rw [Bool.eq_iff_iff]; simp [letB, smallB, capB]; omega
    · simp only [decide_eq_false h2, go_sem, ↓reduceIte, reduceCtorEq, reduceLT, reduceEqDiff, Nat.reduceBEq, reduceAdd, reduceMul, reduceSub, reduceLeDiff, reduceReplicate]
      by_cases h3 : n ≥ 65
      · simp only [decide_eq_true h3, go_sem, ↓reduceIte, reduceCtorEq, reduceLT, reduceEqDiff, Nat.reduceBEq, reduceAdd, reduceMul, reduceSub, reduceLeDiff, reduceReplicate]
        refine Fz.bool ?_
        rw [Bool.eq_iff_iff]; simp [letB, smallB, capB]; omega
      · omega
  · simp only [decide_eq_false h1, go_sem, ↓reduceIte, reduceCtorEq, reduceLT, reduceEqDiff, Nat.reduceBEq, reduceAdd, reduceMul, reduceSub, reduceLeDiff, reduceReplicate]
    by_cases h3 : n ≥ 65
    · simp only [decide_eq_true h3, go_sem, ↓reduceIte, reduceCtorEq, reduceLT, reduceEqDiff, Nat.reduceBEq, reduceAdd, reduceMul, reduceSub, reduceLeDiff, reduceReplicate]
      refine Fz.bool ?_
      rw [Bool.eq_iff_iff]; simp [letB, smallB, capB]; omega
    · simp only [decide_eq_false h3, go_sem, ↓reduceIte, reduceCtorEq, reduceLT, reduceEqDiff, Nat.reduceBEq, reduceAdd, reduceMul, reduceSub, reduceLeDiff, reduceReplicate]
      exact Fz.bool (by simp [letB, smallB, capB]; omega)
theorem isWordByte (n : Int) : Sp Tryz.prog 138 [U n] (B (wordB n)) := by
  refine Sp.of_vc [] [.tmp 2] Tryz.func138 rfl (by kernel_rfl) Tryz.ntmps138 rfl (by simp) ?_
  simp only [go_sem, ↓reduceIte, reduceCtorEq, reduceLT, reduceEqDiff, Nat.reduceBEq, reduceAdd, reduceMul, reduceSub, reduceLeDiff, reduceReplicate]
  refine callK_intro _ (isSmall n) (by simp) ?_
  cases h1 : smallB n
  · simp only [go_sem, ↓reduceIte, reduceCtorEq, reduceLT, reduceEqDiff, Nat.reduceBEq, reduceAdd, reduceMul, reduceSub, reduceLeDiff, reduceReplicate]
    refine callK_intro _ (isCapital n) (by simp) ?_
    cases h2 : capB n
    · simp only [go_sem, ↓reduceIte, reduceCtorEq, reduceLT, reduceEqDiff, Nat.reduceBEq, reduceAdd, reduceMul, reduceSub, reduceLeDiff, reduceReplicate]
      refine callK_intro _ (isDigit n) (by simp) ?_
      simp only [go_sem, ↓reduceIte, reduceCtorEq, reduceLT, reduceEqDiff, Nat.reduceBEq, reduceAdd, reduceMul, reduceSub, reduceLeDiff, reduceReplicate]
      exact Fz.bool (by simp [wordB, h1, h2])
    · simp only [go_sem, ↓reduceIte, reduceCtorEq, reduceLT, reduceEqDiff, Nat.reduceBEq, reduceAdd, reduceMul, reduceSub, reduceLeDiff, reduceReplicate]
      exact Fz.bool (by simp [wordB, h1, h2])
  · simp only [go_sem, ↓reduceIte, reduceCtorEq, reduceLT, reduceEqDiff, Nat.reduceBEq, reduceAdd, reduceMul, reduceSub, reduceLeDiff, reduceReplicate]
    refine Fz.bool (by simp [wordB, h1])
def kws : List ByteArray := [⟨#[100, 97, 116, 97]⟩, ⟨#[100, 101, 102]⟩, ⟨#[108, 101, 116]⟩, ⟨#[105, 110]⟩, ⟨#[109, 97, 116, 99, 104]⟩, ⟨#[105, 102]⟩, ⟨#[116, 104, 101, 110]⟩, ⟨#[101, 108, 115, 101]⟩]
def isKw (s : ByteArray) : Bool := kws.any fun k => decide (k = s)
theorem indexStr (l : List ByteArray) (v : ByteArray) (hl : l.length ≤ maxLen) : Sp Tryz.prog 187 [strs l, S v] (I (idxF (fun x => decide (x = v)) l)) := by
  unfold maxLen at hl
  have hda : (l.map fun n => [S n]).length = l.length := by simp
  refine Sp.of_vc [] [.tmp 4] Tryz.func187 rfl (by kernel_rfl) Tryz.ntmps187 rfl (by simp) ?_
  simp only [go_sem, ↓reduceIte, reduceCtorEq, reduceLT, reduceEqDiff, Nat.reduceBEq, reduceAdd, reduceMul, reduceSub, reduceLeDiff, reduceReplicate, hda]
  refine loop_count 8 l.length (fun k => Fw.Inv 19 [(0, strs l), (1, S v), (7, I l.length)] ((l.take k).any (fun x => decide (x = v)) = false)) rfl ⟨rfl, by simp [strs, envOf, setE], by simp⟩ ?_
  rintro k ⟨env, H, n, nt⟩ hk h5 ⟨rfl, hfs, hp⟩
  simp only [List.forall_mem_cons, strs] at h5 hfs
  obtain ⟨e0, e1, e2, -⟩ := hfs
  simp only [h5, e2, hda, go_sem, ↓reduceIte, reduceCtorEq, reduceLT, reduceEqDiff, Nat.reduceBEq, reduceAdd, reduceMul, reduceSub, reduceLeDiff, reduceReplicate]
  refine condK_split (fun h => ?_) (fun h => ?_)
  · have hlt : k < l.length := by simpa using h
    have g0 : (l.map fun n => [S n])[k]? = some [S l[k]] := by simp [hlt]
    simp only [h, h5, e0, e1, e2, g0, go_sem, ↓reduceIte, reduceCtorEq, reduceLT, reduceEqDiff, Nat.reduceBEq, reduceAdd, reduceMul, reduceSub, reduceLeDiff, reduceReplicate]
    by_cases hc : l[k] = v
    · have f1 : (v.toList == l[k].toList) = true := by rw [bytes_eq]; simp [hc]
      simp only [f1, go_sem, ↓reduceIte, reduceCtorEq, reduceLT, reduceEqDiff, Nat.reduceBEq, reduceAdd, reduceMul, reduceSub, reduceLeDiff, reduceReplicate]
      exact Fz.int (idxF_hit hlt hp (by simp [hc])).symm
    · have f1 : (v.toList == l[k].toList) = false := by rw [bytes_eq]; simp [Ne.symm hc]
      simp only [f1, h5, go_sem, ↓reduceIte, reduceCtorEq, reduceLT, reduceEqDiff, Nat.reduceBEq, reduceAdd, reduceMul, reduceSub, reduceLeDiff, reduceReplicate]
      refine nextC_mk (by simp [setE, wrap_succ k (by omega)]) hlt ⟨rfl, by simp [setE, e0, e1, e2, strs], ?_⟩
      rw [any_take_succ hlt, hp]; simp [hc]
  · have hk' : k = l.length := by simp at h; omega
    simp only [h, go_sem, ↓reduceIte, reduceCtorEq, reduceLT, reduceEqDiff, Nat.reduceBEq, reduceAdd, reduceMul, reduceSub, reduceLeDiff, reduceReplicate]
    refine Fz.int ?_
    rw [hk', List.take_length] at hp
    exact (idxF_none hp).symm
theorem containsStr (l : List ByteArray) (v : ByteArray) (hl : l.length ≤ maxLen) : Sp Tryz.prog 170 [strs l, S v] (B (l.any fun x => decide (x = v))) := by
  refine Sp.of_vc [] [.tmp 4] Tryz.func170 rfl (by kernel_rfl) Tryz.ntmps170 rfl (by simp) ?_
  simp only [go_sem, ↓reduceIte, reduceCtorEq, reduceLT, reduceEqDiff, Nat.reduceBEq, reduceAdd, reduceMul, reduceSub, reduceLeDiff, reduceReplicate]
  refine callK_intro _ (indexStr l v hl) (by simp) ?_
  simp only [go_sem, ↓reduceIte, reduceCtorEq, reduceLT, reduceEqDiff, Nat.reduceBEq, reduceAdd, reduceMul, reduceSub, reduceLeDiff, reduceReplicate]
  exact Fz.bool (idxF_any l)
theorem isKeyword (s : ByteArray) : Sp Tryz.prog 137 [S s] (B (isKw s)) := by
  refine Sp.of_vc [] [.tmp 2] Tryz.func137 rfl (by kernel_rfl) Tryz.ntmps137 rfl (by simp) ?_
  simp only [go_sem, ↓reduceIte, reduceCtorEq, reduceLT, reduceEqDiff, Nat.reduceBEq, reduceAdd, reduceMul, reduceSub, reduceLeDiff, reduceReplicate]
  refine callK_frz [strs kws, S s] _ (containsStr kws s (by simp [kws, maxLen])) rfl
    (by simp only [List.nil_append, List.append_nil, List.map_cons, List.map_nil, List.zip_cons_cons, List.zip_nil_right, List.forall_mem_cons]; exact ⟨Fz.rows (rows := kws.map fun s => [S s]) rfl rfl rfl (by decide) rfl (by simp [kws]) rfl (by simp), .cl _ (cl_sc _), by simp⟩) rfl ?_
  simp only [go_sem, ↓reduceIte, reduceCtorEq, reduceLT, reduceEqDiff, Nat.reduceBEq, reduceAdd, reduceMul, reduceSub, reduceLeDiff, reduceReplicate]
  exact Fz.bool rfl
theorem l01Keywords : Sp Tryz.prog 165 [] (strs kws) := by
  refine Sp.of_vc [] [.tmp 0] Tryz.func165 rfl (by kernel_rfl) Tryz.ntmps165 rfl (by simp) ?_
  simp only [go_sem, ↓reduceIte, reduceCtorEq, reduceLT, reduceEqDiff, Nat.reduceBEq, reduceAdd, reduceMul, reduceSub, reduceLeDiff, reduceReplicate]
  exact Fz.rows (rows := kws.map fun s => [S s]) rfl rfl rfl (by decide) rfl (by simp [kws]) rfl (by simp)
theorem specIsKeyword (s : ByteArray) : Sp Tryz.prog 125 [S s] (B (isKw s)) := by
  have hda : (kws.map fun n => [S n]).length = kws.length := by simp
  have hkl : kws.length = 8 := rfl
  refine Sp.of_vc [] [.tmp 2] Tryz.func125 rfl (by kernel_rfl) Tryz.ntmps125 rfl (by simp) ?_
  simp only [go_sem, ↓reduceIte, reduceCtorEq, reduceLT, reduceEqDiff, Nat.reduceBEq, reduceAdd, reduceMul, reduceSub, reduceLeDiff, reduceReplicate]
  refine loop_count 3 8 (fun k => Fw.Inv 16 [(0, S s)] ((kws.take k).any (fun x => decide (x = s)) = false)) rfl ⟨rfl, by simp [envOf, setE], by simp⟩ ?_
  rintro k ⟨env, H, n, nt⟩ hk h5 ⟨rfl, hfs, hp⟩
  simp only [List.forall_mem_cons] at h5 hfs
  obtain ⟨e0, -⟩ := hfs
  simp only [h5, e0, go_sem, ↓reduceIte, reduceCtorEq, reduceLT, reduceEqDiff, Nat.reduceBEq, reduceAdd, reduceMul, reduceSub, reduceLeDiff, reduceReplicate]
  refine callK_intro _ l01Keywords (by simp) ?_
  simp only [hda, go_sem, ↓reduceIte, reduceCtorEq, reduceLT, reduceEqDiff, Nat.reduceBEq, reduceAdd, reduceMul, reduceSub, reduceLeDiff, reduceReplicate]
  refine condK_split (fun h => ?_) (fun h => ?_)
  · have hlt : k < kws.length := by simpa using h
    have g0 : (kws.map fun n => [S n])[k]? = some [S kws[k]] := by simp [hlt]
    simp only [h, h5, e0, g0, go_sem, ↓reduceIte, reduceCtorEq, reduceLT, reduceEqDiff, Nat.reduceBEq, reduceAdd, reduceMul, reduceSub, reduceLeDiff, reduceReplicate]
    refine callK_intro _ l01Keywords (by simp) ?_
    simp only [h, h5, e0, g0, go_sem, ↓reduceIte, reduceCtorEq, reduceLT, reduceEqDiff, Nat.reduceBEq, reduceAdd, reduceMul, reduceSub, reduceLeDiff, reduceReplicate]
    by_cases hc : kws[k] = s
    · have f1 : (kws[k].toList == s.toList) = true := by rw [bytes_eq]; simp [hc]
      simp only [f1, go_sem, ↓reduceIte, reduceCtorEq, reduceLT, reduceEqDiff, Nat.reduceBEq, reduceAdd, reduceMul, reduceSub, reduceLeDiff, reduceReplicate]
      refine Fz.bool ?_
      symm; rw [isKw, List.any_eq_true]
      exact ⟨kws[k], List.getElem_mem hlt, by simp [hc]⟩
    · have f1 : (kws[k].toList == s.toList) = false := by rw [bytes_eq]; simp [hc]
      simp only [f1, h5, go_sem, ↓reduceIte, reduceCtorEq, reduceLT, reduceEqDiff, Nat.reduceBEq, reduceAdd, reduceMul, reduceSub, reduceLeDiff, reduceReplicate]
      refine nextC_mk (by simp [setE, wrap_succ k (by omega)]) (by omega) ⟨rfl, by simp [setE, e0], ?_⟩
      rw [any_take_succ hlt, hp]; simp [hc]
  · have hk' : k = kws.length := by simp at h; omega
    simp only [h, go_sem, ↓reduceIte, reduceCtorEq, reduceLT, reduceEqDiff, Nat.reduceBEq, reduceAdd, reduceMul, reduceSub, reduceLeDiff, reduceReplicate]
    refine Fz.bool ?_
    rw [hk', List.take_length] at hp
    exact hp.symm
def nmB (s : ByteArray) : Bool := decide (1 ≤ s.size) && decide (s.size ≤ 12) && !digB (b0 s) && !isKw s && (bs s).all wordB
def upB (s : ByteArray) : Bool := nmB s && capB (b0 s)
def loB (s : ByteArray) : Bool := nmB s && smallB (b0 s)
theorem isName (s : ByteArray) (hs : s.size ≤ maxLen) : Sp Tryz.prog 105 [S s] (B (nmB s)) := by
  unfold maxLen at hs
  refine Sp.of_vc [] [.tmp 2] Tryz.func105 rfl (by kernel_rfl) Tryz.ntmps105 rfl (by simp) ?_
  simp only [go_sem, ↓reduceIte, reduceCtorEq, reduceLT, reduceEqDiff, Nat.reduceBEq, reduceAdd, reduceMul, reduceSub, reduceLeDiff, reduceReplicate]
  by_cases c1 : (s.size : Int) < 1
  · simp only [decide_eq_true c1, go_sem, ↓reduceIte, reduceCtorEq, reduceLT, reduceEqDiff, Nat.reduceBEq, reduceAdd, reduceMul, reduceSub, reduceLeDiff, reduceReplicate]
    exact Fz.bool (by simp [nmB]; omega)
  simp only [decide_eq_false c1, go_sem, ↓reduceIte, reduceCtorEq, reduceLT, reduceEqDiff, Nat.reduceBEq, reduceAdd, reduceMul, reduceSub, reduceLeDiff, reduceReplicate]
  by_cases c2 : (s.size : Int) > 12
  · simp only [decide_eq_true c2, go_sem, ↓reduceIte, reduceCtorEq, reduceLT, reduceEqDiff, Nat.reduceBEq, reduceAdd, reduceMul, reduceSub, reduceLeDiff, reduceReplicate]
    exact Fz.bool (by simp [nmB]; omega)
  obtain ⟨g0, g0'⟩ := bs_zero s (by omega)
  simp only [decide_eq_false c2, g0, g0', go_sem, ↓reduceIte, reduceCtorEq, reduceLT, reduceEqDiff, Nat.reduceBEq, reduceAdd, reduceMul, reduceSub, reduceLeDiff, reduceReplicate]
  refine callK_intro _ (isDigit (b0 s)) (by simp) ?_
  cases c3 : digB (b0 s)
  case true =>
    simp only [go_sem, ↓reduceIte, reduceCtorEq, reduceLT, reduceEqDiff, Nat.reduceBEq, reduceAdd, reduceMul, reduceSub, reduceLeDiff, reduceReplicate]
    exact Fz.bool (by simp [nmB, c3])
  simp only [go_sem, ↓reduceIte, reduceCtorEq, reduceLT, reduceEqDiff, Nat.reduceBEq, reduceAdd, reduceMul, reduceSub, reduceLeDiff, reduceReplicate]
  refine callK_intro _ (isKeyword s) (by simp) ?_
  cases c4 : isKw s
  case true =>
    simp only [go_sem, ↓reduceIte, reduceCtorEq, reduceLT, reduceEqDiff, Nat.reduceBEq, reduceAdd, reduceMul, reduceSub, reduceLeDiff, reduceReplicate]
    exact Fz.bool (by simp [nmB, c4])
  simp only [go_sem, ↓reduceIte, reduceCtorEq, reduceLT, reduceEqDiff, Nat.reduceBEq, reduceAdd, reduceMul, reduceSub, reduceLeDiff, reduceReplicate]
  refine loop_count 23 s.size (fun k => Fw.Inv 32 [(0, S s), (22, I s.size)] (((bs s).take k).all wordB = true)) rfl ⟨rfl, by simp [envOf, setE], by simp⟩ ?_
  rintro k ⟨env, H, n, nt⟩ hk h5 ⟨rfl, hfs, hp⟩
  simp only [List.forall_mem_cons] at h5 hfs
  obtain ⟨e0, e1, -⟩ := hfs
  simp only [h5, e0, e1, go_sem, ↓reduceIte, reduceCtorEq, reduceLT, reduceEqDiff, Nat.reduceBEq, reduceAdd, reduceMul, reduceSub, reduceLeDiff, reduceReplicate]
  refine condK_split (fun h => ?_) (fun h => ?_)
  · have hlt : k < s.size := by simpa using h
    have hlt' : k < (bs s).length := by rw [bs_len]; exact hlt
    obtain ⟨q0, q1⟩ := bs_get s k hlt
    simp only [h, h5, e0, e1, q0, q1, go_sem, ↓reduceIte, reduceCtorEq, reduceLT, reduceEqDiff, Nat.reduceBEq, reduceAdd, reduceMul, reduceSub, reduceLeDiff, reduceReplicate]
    refine callK_intro _ (isWordByte _) (by simp) ?_
    cases hc : wordB (bs s)[k]
    · simp only [go_sem, ↓reduceIte, reduceCtorEq, reduceLT, reduceEqDiff, Nat.reduceBEq, reduceAdd, reduceMul, reduceSub, reduceLeDiff, reduceReplicate]
      exact Fz.bool (by simp only [nmB, all_of_take hlt' hc, Bool.and_false])
    · simp only [h5, go_sem, ↓reduceIte, reduceCtorEq, reduceLT, reduceEqDiff, Nat.reduceBEq, reduceAdd, reduceMul, reduceSub, reduceLeDiff, reduceReplicate]
      refine nextC_mk (by simp [setE, wrap_succ k (by omega)]) hlt ⟨rfl, by simp [setE, e0, e1], ?_⟩
      rw [all_take_succ hlt', hp, hc]; rfl
  · have hk' : k = s.size := by simp at h; omega
    simp only [h, go_sem, ↓reduceIte, reduceCtorEq, reduceLT, reduceEqDiff, Nat.reduceBEq, reduceAdd, reduceMul, reduceSub, reduceLeDiff, reduceReplicate]
    refine Fz.bool ?_
    rw [hk', ← bs_len, List.take_length] at hp
    simp [nmB, c3, c4, hp]; omega
theorem nm_size {s : ByteArray} (h : nmB s = true) : 0 < s.size := by
  simp only [nmB, Bool.and_eq_true, decide_eq_true_eq] at h
  omega
theorem word_b0 {s : ByteArray} (h0 : 0 < s.size) (h : (bs s).all wordB = true) : wordB (b0 s) = true := by
  have hl := bs_len s
  rw [List.all_eq_true] at h
  unfold b0
  cases hb : bs s with
  | nil => rw [hb] at hl; simp at hl; omega
  | cons a l => rw [hb] at h; exact h a (by simp)
theorem let_b0 {s : ByteArray} (h0 : 0 < s.size) (h : (bs s).all wordB = true) : letB (b0 s) = !digB (b0 s) := by
  have := word_b0 h0 h
  rw [Bool.eq_iff_iff]
  simp only [wordB, letB, smallB, capB, digB, Bool.or_eq_true, Bool.and_eq_true, decide_eq_true_eq, Bool.not_eq_true', Bool.and_eq_false_iff, decide_eq_false_iff_not] at *
  omega
theorem specIsName (s : ByteArray) (hs : s.size ≤ maxLen) : Sp Tryz.prog 98 [S s] (B (nmB s)) := by
  unfold maxLen at hs
  refine Sp.of_vc [] [.tmp 2] Tryz.func98 rfl (by kernel_rfl) Tryz.ntmps98 rfl (by simp) ?_
  simp only [go_sem, ↓reduceIte, reduceCtorEq, reduceLT, reduceEqDiff, Nat.reduceBEq, reduceAdd, reduceMul, reduceSub, reduceLeDiff, reduceReplicate]
  by_cases c1 : (s.size : Int) < 1
  · simp only [decide_eq_true c1, go_sem, ↓reduceIte, reduceCtorEq, reduceLT, reduceEqDiff, Nat.reduceBEq, reduceAdd, reduceMul, reduceSub, reduceLeDiff, reduceReplicate]
    exact Fz.bool (by simp [nmB]; omega)
  simp only [decide_eq_false c1, go_sem, ↓reduceIte, reduceCtorEq, reduceLT, reduceEqDiff, Nat.reduceBEq, reduceAdd, reduceMul, reduceSub, reduceLeDiff, reduceReplicate]
  by_cases c2 : (s.size : Int) > 12
  · simp only [decide_eq_true c2, go_sem, ↓reduceIte, reduceCtorEq, reduceLT, reduceEqDiff, Nat.reduceBEq, reduceAdd, reduceMul, reduceSub, reduceLeDiff, reduceReplicate]
    exact Fz.bool (by simp [nmB]; omega)
  obtain ⟨g0, g0'⟩ := bs_zero s (by omega)
  have bad : letB (b0 s) = false → false = nmB s := fun hc => by
    cases hw : (bs s).all wordB
    · simp [nmB, hw]
    · have := let_b0 (by omega) hw
      rw [hc] at this
      have : digB (b0 s) = true := by simpa using this.symm
      simp [nmB, this]
  simp only [decide_eq_false c2, g0, g0', go_sem, ↓reduceIte, reduceCtorEq, reduceLT, reduceEqDiff, Nat.reduceBEq, reduceAdd, reduceMul, reduceSub, reduceLeDiff, reduceReplicate]
  refine callK_intro _ (l01Letter (b0 s)) (by simp) ?_
  cases c3 : letB (b0 s)
  · simp only [go_sem, ↓reduceIte, reduceCtorEq, reduceLT, reduceEqDiff, Nat.reduceBEq, reduceAdd, reduceMul, reduceSub, reduceLeDiff, reduceReplicate]
    exact Fz.bool (bad c3)
  simp only [go_sem, ↓reduceIte, reduceCtorEq, reduceLT, reduceEqDiff, Nat.reduceBEq, reduceAdd, reduceMul, reduceSub, reduceLeDiff, reduceReplicate]
  refine callK_intro _ (specIsKeyword s) (by simp) ?_
  cases c4 : isKw s
  case true =>
    simp only [go_sem, ↓reduceIte, reduceCtorEq, reduceLT, reduceEqDiff, Nat.reduceBEq, reduceAdd, reduceMul, reduceSub, reduceLeDiff, reduceReplicate]
    exact Fz.bool (by simp [nmB, c4])
  simp only [go_sem, ↓reduceIte, reduceCtorEq, reduceLT, reduceEqDiff, Nat.reduceBEq, reduceAdd, reduceMul, reduceSub, reduceLeDiff, reduceReplicate]
  refine loop_count 3 s.size (fun k => Fw.Inv 40 [(0, S s)] (((bs s).take k).all wordB = true)) rfl ⟨rfl, by simp [envOf, setE], by simp⟩ ?_
  rintro k ⟨env, H, n, nt⟩ hk h5 ⟨rfl, hfs, hp⟩
  simp only [List.forall_mem_cons] at h5 hfs
  obtain ⟨e0, -⟩ := hfs
  simp only [h5, e0, go_sem, ↓reduceIte, reduceCtorEq, reduceLT, reduceEqDiff, Nat.reduceBEq, reduceAdd, reduceMul, reduceSub, reduceLeDiff, reduceReplicate]
  refine condK_split (fun h => ?_) (fun h => ?_)
  · have hlt : k < s.size := by simpa using h
    have hlt' : k < (bs s).length := by rw [bs_len]; exact hlt
    obtain ⟨q0, q1⟩ := bs_get s k hlt
    have next : wordB (bs s)[k] = true → ((bs s).take (k + 1)).all wordB = true := fun hc => by rw [all_take_succ hlt', hp, hc]; rfl
    simp only [h, h5, e0, q0, q1, go_sem, ↓reduceIte, reduceCtorEq, reduceLT, reduceEqDiff, Nat.reduceBEq, reduceAdd, reduceMul, reduceSub, reduceLeDiff, reduceReplicate]
    refine callK_intro _ (l01Letter _) (by simp) ?_
    cases hc : letB (bs s)[k]
    · simp only [h5, e0, q0, q1, go_sem, ↓reduceIte, reduceCtorEq, reduceLT, reduceEqDiff, Nat.reduceBEq, reduceAdd, reduceMul, reduceSub, reduceLeDiff, reduceReplicate]
      refine callK_intro _ (l01Digit _) (by simp) ?_
      cases hd : digB (bs s)[k]
      · simp only [go_sem, ↓reduceIte, reduceCtorEq, reduceLT, reduceEqDiff, Nat.reduceBEq, reduceAdd, reduceMul, reduceSub, reduceLeDiff, reduceReplicate]
        have hw : wordB (bs s)[k] = false := by simp only [letB] at hc; simp [wordB, hc, hd]
        exact Fz.bool (by simp only [nmB, all_of_take hlt' hw, Bool.and_false])
      · simp only [h5, go_sem, ↓reduceIte, reduceCtorEq, reduceLT, reduceEqDiff, Nat.reduceBEq, reduceAdd, reduceMul, reduceSub, reduceLeDiff, reduceReplicate]
        exact nextC_mk (by simp [setE, wrap_succ k (by omega)]) hlt ⟨rfl, by simp [setE, e0], next (by simp [wordB, hd])⟩
    · simp only [h5, go_sem, ↓reduceIte, reduceCtorEq, reduceLT, reduceEqDiff, Nat.reduceBEq, reduceAdd, reduceMul, reduceSub, reduceLeDiff, reduceReplicate]
      exact nextC_mk (by simp [setE, wrap_succ k (by omega)]) hlt ⟨rfl, by simp [setE, e0], next (by simp only [letB] at hc; simp [wordB, hc])⟩
  · have hk' : k = s.size := by simp at h; omega
    simp only [h, go_sem, ↓reduceIte, reduceCtorEq, reduceLT, reduceEqDiff, Nat.reduceBEq, reduceAdd, reduceMul, reduceSub, reduceLeDiff, reduceReplicate]
    refine Fz.bool ?_
    rw [hk', ← bs_len, List.take_length] at hp
    have hd := let_b0 (by omega) hp
    rw [c3] at hd
    have hd : digB (b0 s) = false := by simpa using hd.symm
    simp [nmB, hd, c4, hp]; omega
theorem isUpper (s : ByteArray) (hs : s.size ≤ maxLen) : Sp Tryz.prog 102 [S s] (B (upB s)) := by
  refine Sp.of_vc [] [.tmp 2] Tryz.func102 rfl (by kernel_rfl) Tryz.ntmps102 rfl (by simp) ?_
  simp only [go_sem, ↓reduceIte, reduceCtorEq, reduceLT, reduceEqDiff, Nat.reduceBEq, reduceAdd, reduceMul, reduceSub, reduceLeDiff, reduceReplicate]
  refine callK_intro _ (isName s hs) (by simp) ?_
  cases c : nmB s
  · simp only [go_sem, ↓reduceIte, reduceCtorEq, reduceLT, reduceEqDiff, Nat.reduceBEq, reduceAdd, reduceMul, reduceSub, reduceLeDiff, reduceReplicate]
    exact Fz.bool (by simp [upB, c])
  obtain ⟨g0, g0'⟩ := bs_zero s (nm_size c)
  simp only [g0, g0', go_sem, ↓reduceIte, reduceCtorEq, reduceLT, reduceEqDiff, Nat.reduceBEq, reduceAdd, reduceMul, reduceSub, reduceLeDiff, reduceReplicate]
  refine callK_intro _ (isCapital _) (by simp) ?_
  simp only [go_sem, ↓reduceIte, reduceCtorEq, reduceLT, reduceEqDiff, Nat.reduceBEq, reduceAdd, reduceMul, reduceSub, reduceLeDiff, reduceReplicate]
  exact Fz.bool (by simp [upB, c])
theorem isLower (s : ByteArray) (hs : s.size ≤ maxLen) : Sp Tryz.prog 67 [S s] (B (loB s)) := by
  refine Sp.of_vc [] [.tmp 2] Tryz.func67 rfl (by kernel_rfl) Tryz.ntmps67 rfl (by simp) ?_
  simp only [go_sem, ↓reduceIte, reduceCtorEq, reduceLT, reduceEqDiff, Nat.reduceBEq, reduceAdd, reduceMul, reduceSub, reduceLeDiff, reduceReplicate]
  refine callK_intro _ (isName s hs) (by simp) ?_
  cases c : nmB s
  · simp only [go_sem, ↓reduceIte, reduceCtorEq, reduceLT, reduceEqDiff, Nat.reduceBEq, reduceAdd, reduceMul, reduceSub, reduceLeDiff, reduceReplicate]
    exact Fz.bool (by simp [loB, c])
  obtain ⟨g0, g0'⟩ := bs_zero s (nm_size c)
  simp only [g0, g0', go_sem, ↓reduceIte, reduceCtorEq, reduceLT, reduceEqDiff, Nat.reduceBEq, reduceAdd, reduceMul, reduceSub, reduceLeDiff, reduceReplicate]
  refine callK_intro _ (isSmall _) (by simp) ?_
  simp only [go_sem, ↓reduceIte, reduceCtorEq, reduceLT, reduceEqDiff, Nat.reduceBEq, reduceAdd, reduceMul, reduceSub, reduceLeDiff, reduceReplicate]
  exact Fz.bool (by simp [loB, c])
theorem nm_let {s : ByteArray} (h : nmB s = true) : letB (b0 s) = true := by
  have h0 := nm_size h
  simp only [nmB, Bool.and_eq_true] at h
  rw [let_b0 h0 h.2]; exact h.1.1.2
theorem specIsUpper (s : ByteArray) (hs : s.size ≤ maxLen) : Sp Tryz.prog 95 [S s] (B (upB s)) := by
  refine Sp.of_vc [] [.tmp 2] Tryz.func95 rfl (by kernel_rfl) Tryz.ntmps95 rfl (by simp) ?_
  simp only [go_sem, ↓reduceIte, reduceCtorEq, reduceLT, reduceEqDiff, Nat.reduceBEq, reduceAdd, reduceMul, reduceSub, reduceLeDiff, reduceReplicate]
  refine callK_intro _ (specIsName s hs) (by simp) ?_
  cases c : nmB s
  · simp only [go_sem, ↓reduceIte, reduceCtorEq, reduceLT, reduceEqDiff, Nat.reduceBEq, reduceAdd, reduceMul, reduceSub, reduceLeDiff, reduceReplicate]
    exact Fz.bool (by simp [upB, c])
  obtain ⟨g0, g0'⟩ := bs_zero s (nm_size c)
  simp only [g0, g0', go_sem, ↓reduceIte, reduceCtorEq, reduceLT, reduceEqDiff, Nat.reduceBEq, reduceAdd, reduceMul, reduceSub, reduceLeDiff, reduceReplicate]
  refine Fz.bool ?_
  have := nm_let c
  rw [Bool.eq_iff_iff]
  simp only [upB, c, Bool.true_and, letB, smallB, capB, Bool.or_eq_true, Bool.and_eq_true, decide_eq_true_eq] at *
  omega
theorem specIsLower (s : ByteArray) (hs : s.size ≤ maxLen) : Sp Tryz.prog 57 [S s] (B (loB s)) := by
  refine Sp.of_vc [] [.tmp 2] Tryz.func57 rfl (by kernel_rfl) Tryz.ntmps57 rfl (by simp) ?_
  simp only [go_sem, ↓reduceIte, reduceCtorEq, reduceLT, reduceEqDiff, Nat.reduceBEq, reduceAdd, reduceMul, reduceSub, reduceLeDiff, reduceReplicate]
  refine callK_intro _ (specIsName s hs) (by simp) ?_
  cases c : nmB s
  · simp only [go_sem, ↓reduceIte, reduceCtorEq, reduceLT, reduceEqDiff, Nat.reduceBEq, reduceAdd, reduceMul, reduceSub, reduceLeDiff, reduceReplicate]
    exact Fz.bool (by simp [loB, c])
  obtain ⟨g0, g0'⟩ := bs_zero s (nm_size c)
  simp only [g0, g0', go_sem, ↓reduceIte, reduceCtorEq, reduceLT, reduceEqDiff, Nat.reduceBEq, reduceAdd, reduceMul, reduceSub, reduceLeDiff, reduceReplicate]
  refine Fz.bool ?_
  have := nm_let c
  rw [Bool.eq_iff_iff]
  simp only [loB, c, Bool.true_and, letB, smallB, capB, Bool.or_eq_true, Bool.and_eq_true, decide_eq_true_eq] at *
  omega
end Go.Proofs.YtcidmkcicagpaaaGreat
