/-
  Sorting of numbers. No condition.
-/
import Derived.Test.YtcidmkcicagpaaaGreatP20
set_option maxRecDepth 100000
set_option linter.unusedSimpArgs false
set_option linter.unusedVariables false
namespace Go.Proofs.YtcidmkcicagpaaaGreat
open Go.Fw
open Nat (reduceLT reduceEqDiff reduceAdd reduceMul reduceSub reduceLeDiff)
open List (reduceReplicate)
abbrev Z (l : List Int) : List (List D) := l.map fun i => [I i]
theorem Z_flat (l : List Int) : (Z l).flatten = l.map I := by
  induction l with
  | nil => rfl
  | cons a l ih => simp only [Z, List.map_cons, List.flatten_cons] at ih ⊢; rw [ih]; rfl
theorem Z_len (l : List Int) : ∀ r ∈ Z l, r.length = 1 := by simp
theorem cl_Zf (l : List Int) : ∀ d ∈ (Z l).flatten, Cl d := by
  rw [Z_flat]
  intro d hd
  obtain ⟨i, -, rfl⟩ := List.mem_map.1 hd
  exact cl_sc _
theorem Z_cl (l : List Int) : ∀ r ∈ Z l, ∀ d ∈ r, Cl d := fun r hr d hd => cl_Zf l d (List.mem_flatten.2 ⟨r, hr, hd⟩)
theorem cl_Z (l : List Int) : Cl (.sl 1 (Z l)) := Cl.sl' (Z_cl l)
theorem isNaN (x : Int) : Sp Tryz.prog 186 [I x] (B false) := by
  refine Sp.of_vc [] [.tmp 2] Tryz.func186 rfl (by kernel_rfl) Tryz.ntmps186 rfl (by simp) ?_
  simp only [go_sem, ↓reduceIte, reduceCtorEq, reduceLT, reduceEqDiff, Nat.reduceBEq, reduceAdd, reduceMul, reduceSub, reduceLeDiff, reduceReplicate]
  exact Fz.bool (by simp)
theorem cmpLess (x y : Int) : Sp Tryz.prog 160 [I x, I y] (B (decide (x < y))) := by
  refine Sp.of_vc [] [.tmp 4] Tryz.func160 rfl (by kernel_rfl) Tryz.ntmps160 rfl (by simp) ?_
  simp only [go_sem, ↓reduceIte, reduceCtorEq, reduceLT, reduceEqDiff, Nat.reduceBEq, reduceAdd, reduceMul, reduceSub, reduceLeDiff, reduceReplicate]
  refine callK_intro _ (isNaN x) (by simp) ?_
  simp only [go_sem, ↓reduceIte, reduceCtorEq, reduceLT, reduceEqDiff, Nat.reduceBEq, reduceAdd, reduceMul, reduceSub, reduceLeDiff, reduceReplicate]
  exact Fz.bool rfl
theorem Srt.nil : Srt [] := .nil
theorem srt_take1 (m : List Int) : Srt (m.take 1) := by
  cases m with
  | nil => exact .nil
  | cons a m => simp [Srt]
theorem srt_ins {p q : List Int} {x : Int} (h : Srt (p ++ q)) (hq : ∀ y ∈ q, x ≤ y) (hp : p = [] ∨ ∃ p' y, p = p' ++ [y] ∧ y ≤ x) : Srt (p ++ x :: q) := by
  unfold Srt at h ⊢
  rw [List.pairwise_append] at h ⊢
  obtain ⟨h1, h2, h3⟩ := h
  refine ⟨h1, List.pairwise_cons.2 ⟨hq, h2⟩, fun a ha b hb => ?_⟩
  have hax : a ≤ x := by
    rcases hp with rfl | ⟨p', y, rfl, hy⟩
    · simp at ha
    · rw [List.pairwise_append] at h1
      rcases List.mem_append.1 ha with k | k
      · have := h1.2.2 a k y (by simp); omega
      · simp at k; omega
  rcases List.mem_cons.1 hb with rfl | hb
  · exact hax
  · exact h3 a ha b hb
theorem set_at (A B : List D) (a b : D) (n : Nat) (h : n = A.length) : List.take n (A ++ a :: B) ++ [b] ++ List.drop (n + 1) (A ++ a :: B) = A ++ b :: B := by
  subst h
  simp [List.drop_append]
theorem swap_cells (p q r : List Int) (x y : Int) (C : List D) (hC : C = (p ++ [y] ++ x :: q ++ r).map I) :
    List.take (p.length + 1) C ++ [D.sc (Value.int IntKind.i64 y)] ++ List.drop (p.length + 1 + 1) C = (p ++ [y] ++ y :: q ++ r).map I ∧
    List.take p.length ((p ++ [y] ++ y :: q ++ r).map I) ++ [D.sc (Value.int IntKind.i64 x)] ++ List.drop (p.length + 1) ((p ++ [y] ++ y :: q ++ r).map I) = (p ++ x :: (y :: q) ++ r).map I := by
  have e1 : C = (p ++ [y]).map I ++ I x :: (q ++ r).map I := by rw [hC]; simp
  have e2 : (p ++ [y] ++ y :: q ++ r).map I = p.map I ++ I y :: (y :: q ++ r).map I := by simp
  constructor
  · rw [e1, set_at _ _ _ _ _ (by simp)]; simp
  · rw [e2, set_at _ _ _ _ _ (by simp)]; simp
theorem sort_nil (l : List Int) (h : Z l = []) : l = [] := by simpa [Z] using h
theorem insertionSort (l : List Int) (hl : l.length ≤ 1048576) : SpW Tryz.prog 154 [I 0, I l.length] 2 1 (Z l) (Z (srtF l)) (.tp []) := by
  refine SpW.of_vc [] [] Tryz.func154 rfl (by kernel_rfl) Tryz.ntmps154 rfl (by simp) ?_ ?_ ?_ rfl ?_ ?_
  · simp [(srtF_perm l).length_eq]
  · exact cl_Zf l
  · exact cl_Zf _
  · intro h
    have := sort_nil l h
    subst this
    simp only [List.length_nil, go_sem, ↓reduceIte, reduceCtorEq, reduceLT, reduceEqDiff, Nat.reduceBEq, reduceAdd, reduceMul, reduceSub, reduceLeDiff, reduceReplicate]
    refine loop_meas (fun s => s.nt = 49 ∧ s.env 6 = I 1 ∧ s.env 2 = I 0) (fun _ => 0) ⟨rfl, by simp [setE, envOf]; rfl, by simp [setE, envOf]⟩ ?_
    rintro ⟨env, H, n, nt, T⟩ ⟨rfl, e6, e2⟩
    simp only at e6 e2
    simp only [e6, e2, go_sem, ↓reduceIte, reduceCtorEq, reduceLT, reduceEqDiff, Nat.reduceBEq, reduceAdd, reduceMul, reduceSub, reduceLeDiff, reduceReplicate]
    refine condK_split (fun h => ?_) (fun h => ?_)
    · simp at h
    · simp only [h, go_sem, ↓reduceIte, reduceCtorEq, reduceLT, reduceEqDiff, Nat.reduceBEq, reduceAdd, reduceMul, reduceSub, reduceLeDiff, reduceReplicate]
      exact .inl trivial
  · simp only [stL, Z_flat, List.length_map, List.length_nil, go_sem, ↓reduceIte, reduceCtorEq, reduceLT, reduceEqDiff, Nat.reduceBEq, reduceAdd, reduceMul, reduceSub, reduceLeDiff, reduceReplicate]
    refine loop_meas (fun s => s.nt = 49 ∧ ∃ (i : Nat) (m : List Int), s.env 6 = I i ∧ s.env 0 = .ms 0 0 l.length ∧ s.env 1 = I 0 ∧ s.env 2 = I l.length ∧ s.H 0 = some ⟨0, 2, 1, m.map I, none⟩ ∧ m.Perm l ∧ Srt (m.take i) ∧ 1 ≤ i ∧ i ≤ l.length + 1)
      (fun s => match s.env 6 with | .sc (.int _ n) => l.length + 1 - n.toNat | _ => 0) ⟨rfl, 1, l, by simp [setE, envOf]; rfl, by simp [setE, envOf], by simp [setE, envOf], by simp [setE, envOf], by simp [upd], .refl _, srt_take1 l, by omega, by omega⟩ ?_
    rintro ⟨env, H, n, nt, T⟩ ⟨rfl, i, m, e6, e0, e1, e2, eH, hm, hs, hi1, hi2⟩
    simp only at e6 e0 e1 e2 eH
    have hml := hm.length_eq
    simp only [e6, e0, e1, e2, go_sem, ↓reduceIte, reduceCtorEq, reduceLT, reduceEqDiff, Nat.reduceBEq, reduceAdd, reduceMul, reduceSub, reduceLeDiff, reduceReplicate]
    refine condK_split (fun h => ?_) (fun h => ?_)
    · have hlt : i < m.length := by simp at h; omega
      simp only [h, e6, e0, e1, e2, go_sem, ↓reduceIte, reduceCtorEq, reduceLT, reduceEqDiff, Nat.reduceBEq, reduceAdd, reduceMul, reduceSub, reduceLeDiff, reduceReplicate]
      refine loop_meas (fun s => s.nt = 49 ∧ ∃ (p q r : List Int) (x : Int), s.env 7 = I p.length ∧ s.env 6 = I i ∧ s.env 0 = .ms 0 0 l.length ∧ s.env 1 = I 0 ∧ s.env 2 = I l.length ∧ s.H 0 = some ⟨0, 2, 1, (p ++ x :: q ++ r).map I, none⟩ ∧ (p ++ x :: q ++ r).Perm l ∧ Srt (p ++ q) ∧ (∀ y ∈ q, x ≤ y) ∧ p.length + q.length = i)
        (fun s => match s.env 7 with | .sc (.int _ n) => n.toNat | _ => 0) ⟨rfl, m.take i, [], m.drop (i + 1), m[i], by simp [setE]; omega, by simp [setE, e6], by simp [setE, e0], by simp [setE, e1], by simp [setE, e2], ?_, ?_, ?_, by simp, by simp; omega⟩ ?_
      · have : m.take i ++ m[i] :: [] ++ m.drop (i + 1) = m := by
          rw [List.append_assoc, List.cons_append, List.nil_append, ← List.drop_eq_getElem_cons hlt, List.take_append_drop]
        rw [this]; exact eH
      · have : m.take i ++ m[i] :: [] ++ m.drop (i + 1) = m := by
          rw [List.append_assoc, List.cons_append, List.nil_append, ← List.drop_eq_getElem_cons hlt, List.take_append_drop]
        rw [this]; exact hm
      · simpa using hs
      rintro ⟨env2, H2, n2, nt2, T2⟩ ⟨rfl, p, q, r, x, f7, f6, f0, f1, f2, fH, gm, gs, gq, gi⟩
      simp only at f7 f6 f0 f1 f2 fH
      rcases List.eq_nil_or_concat p with rfl | ⟨p', y, rfl⟩
      · simp only [List.length_nil, List.nil_append] at f7 fH gm gs gi
        have f7 : env2 7 = I 0 := f7
        have z0 : decide ((0 : Int) > 0) = false := rfl
        simp only [f7, f6, f0, f1, f2, go_sem, ↓reduceIte, reduceCtorEq, reduceLT, reduceEqDiff, Nat.reduceBEq, reduceAdd, reduceMul, reduceSub, reduceLeDiff, reduceReplicate]
        refine drawK_intro mixed (by kernel_rfl) ?_
        simp only [f7, f6, f0, f1, f2, z0, go_sem, ↓reduceIte, reduceCtorEq, reduceLT, reduceEqDiff, Nat.reduceBEq, reduceAdd, reduceMul, reduceSub, reduceLeDiff, reduceReplicate]
        have hpl : ([] ++ x :: q).length = i + 1 := by simp only [List.length_append, List.length_cons, List.length_nil]; omega
        refine ⟨⟨rfl, i + 1, [] ++ x :: q ++ r, by simp [setE, wrap_succ i (by omega)], by simp [setE, f0], by simp [setE, f1], by simp [setE, f2], fH, gm, ?_, by omega, by omega⟩, ?_⟩
        · rw [List.take_left' hpl]
          exact srt_ins gs gq (.inl rfl)
        · simp [setE, wrap_succ i (by omega)]; omega
      · simp only [List.concat_eq_append, List.length_append, List.length_cons, List.length_nil, Nat.zero_add] at f7 fH gm gs gi
        have hgl := gm.length_eq
        simp only [List.length_append, List.length_cons, List.length_nil] at hgl
        have z1 : decide ((((p'.length + 1 : Nat) : Int)) > 0) = true := decide_eq_true (by omega)
        have z2 : IntKind.i64.wrap (((p'.length + 1 : Nat) : Int) - 1) = (p'.length : Int) := by
          rw [Go.IntWalk.i64_in _ (by omega)]; omega
        have z3 : (((p'.length + 1 : Nat) : Int) < (l.length : Int)) = True := eq_true (by omega)
        have z4 : ((p'.length : Int) < (l.length : Int)) = True := eq_true (by omega)
        obtain ⟨C, hC⟩ : ∃ C, C = (p' ++ [y] ++ x :: q ++ r).map I := ⟨_, rfl⟩
        have c1 : C[p'.length + 1]? = some (I x) := by rw [hC]; simp
        have c0 : C[p'.length]? = some (I y) := by rw [hC]; simp
        rw [← hC] at fH
        simp only [f7, f6, f0, f1, f2, go_sem, ↓reduceIte, reduceCtorEq, reduceLT, reduceEqDiff, Nat.reduceBEq, reduceAdd, reduceMul, reduceSub, reduceLeDiff, reduceReplicate]
        refine drawK_intro mixed (by kernel_rfl) ?_
        simp only [f7, f6, f0, f1, f2, fH, z1, z2, z3, z4, List.head?_drop, c0, c1, Int.toNat_natCast, Nat.mul_one, go_sem, ↓reduceIte, reduceCtorEq, reduceLT, reduceEqDiff, Nat.reduceBEq, reduceAdd, reduceMul, reduceSub, reduceLeDiff, reduceReplicate]
        refine callQ_intro _ (cmpLess x y) (by simp only [List.nil_append, List.append_nil, List.forall_mem_cons]; exact ⟨cl_sc _, cl_sc _, by simp⟩) rfl ?_
        simp only [go_sem, ↓reduceIte, reduceCtorEq, reduceLT, reduceEqDiff, Nat.reduceBEq, reduceAdd, reduceMul, reduceSub, reduceLeDiff, reduceReplicate]
        refine condK_split (fun h => ?_) (fun h => ?_)
        · have hxy : x < y := by simpa using h
          simp only [h, f7, f6, f0, f1, f2, fH, z1, z2, z3, z4, List.head?_drop, c0, c1, Int.toNat_natCast, Nat.mul_one, go_sem, ↓reduceIte, reduceCtorEq, reduceLT, reduceEqDiff, Nat.reduceBEq, reduceAdd, reduceMul, reduceSub, reduceLeDiff, reduceReplicate]
          refine drawM_chain [0, 1, 2, 3, 4, 5, 6, 7, 8, 9, 10, 11, 12, 13, 14, 15, 16, 17] [] [42, 46] mixed (by kernel_rfl) ?_
          simp only [h, f7, f6, f0, f1, f2, fH, z1, z2, z3, z4, List.head?_drop, c0, c1, Int.toNat_natCast, Nat.mul_one, go_sem, ↓reduceIte, reduceCtorEq, reduceLT, reduceEqDiff, Nat.reduceBEq, reduceAdd, reduceMul, reduceSub, reduceLeDiff, reduceReplicate]
          obtain ⟨w1, w2⟩ := swap_cells p' q r x y C hC
          have hCl : C.length = l.length := by rw [hC, List.length_map]; simp; omega
          rw [w1, w2]
          refine ⟨by omega, by simp <;> omega, ⟨rfl, p', y :: q, r, x, by simp [setE], by simp [setE, f6], by simp [setE, f0], by simp [setE, f1], by simp [setE, f2], by simp [upd], ?_, ?_, ?_, ?_⟩, ?_⟩
          · refine List.Perm.trans ?_ gm
            simp only [List.append_assoc, List.cons_append, List.nil_append]
            exact (List.Perm.swap y x _).append_left p'
          · simpa using gs
          · intro z hz
            rcases List.mem_cons.1 hz with rfl | hz
            · omega
            · exact gq z hz
          · simp only [List.length_cons]; omega
          · simp [setE, f7]
        · have hxy : y ≤ x := by simp at h; omega
          simp only [h, f7, f6, f0, f1, f2, go_sem, ↓reduceIte, reduceCtorEq, reduceLT, reduceEqDiff, Nat.reduceBEq, reduceAdd, reduceMul, reduceSub, reduceLeDiff, reduceReplicate]
          rw [hC] at fH
          have hpl : (p' ++ [y] ++ x :: q).length = i + 1 := by simp only [List.length_append, List.length_cons, List.length_nil]; omega
          refine ⟨⟨rfl, i + 1, p' ++ [y] ++ x :: q ++ r, by simp [setE, wrap_succ i (by omega)], by simp [setE, f0], by simp [setE, f1], by simp [setE, f2], fH, gm, ?_, by omega, by omega⟩, ?_⟩
          · rw [List.take_left' hpl]
            exact srt_ins gs gq (.inr ⟨p', y, rfl, hxy⟩)
          · simp [setE, wrap_succ i (by omega)]; omega
    · have hge : l.length ≤ i := by simp at h; omega
      have hmt : m.take i = m := List.take_of_length_le (by omega)
      rw [hmt] at hs
      have hsf : srtF l = m := srtF_eq hs hm
      simp only [h, go_sem, ↓reduceIte, reduceCtorEq, reduceLT, reduceEqDiff, Nat.reduceBEq, reduceAdd, reduceMul, reduceSub, reduceLeDiff, reduceReplicate]
      try refine ⟨resD_nil, ?_⟩
      try refine .inr ?_
      refine ⟨_, eH, rfl, rfl, rfl, ?_, rfl⟩
      simp only
      rw [Z_flat, hsf]
theorem len64 (k : Nat) (h : k ≤ 12) : ∃ r : Int, Sp Tryz.prog 164 [.sc (.int .u64 k)] (I r) := by
  match k, h with
  | 0, _ =>
    refine ⟨0, ?_⟩
    refine Sp.of_vc [] [.tmp 2] Tryz.func164 rfl (by kernel_rfl) Tryz.ntmps164 rfl (by simp) ?_
    simp (decide := true) only [go_sem, ↓reduceIte, reduceCtorEq, reduceLT, reduceEqDiff, Nat.reduceBEq, reduceAdd, reduceMul, reduceSub, reduceLeDiff, reduceReplicate]
    change putK _ _ _ (some (D.sc (Value.int IntKind.u8 0)))
    simp (decide := true) only [go_sem, ↓reduceIte, reduceCtorEq, reduceLT, reduceEqDiff, Nat.reduceBEq, reduceAdd, reduceMul, reduceSub, reduceLeDiff, reduceReplicate]
    exact Fz.int rfl
  | 1, _ =>
    refine ⟨1, ?_⟩
    refine Sp.of_vc [] [.tmp 2] Tryz.func164 rfl (by kernel_rfl) Tryz.ntmps164 rfl (by simp) ?_
    simp (decide := true) only [go_sem, ↓reduceIte, reduceCtorEq, reduceLT, reduceEqDiff, Nat.reduceBEq, reduceAdd, reduceMul, reduceSub, reduceLeDiff, reduceReplicate]
    change putK _ _ _ (some (D.sc (Value.int IntKind.u8 1)))
    simp (decide := true) only [go_sem, ↓reduceIte, reduceCtorEq, reduceLT, reduceEqDiff, Nat.reduceBEq, reduceAdd, reduceMul, reduceSub, reduceLeDiff, reduceReplicate]
    exact Fz.int rfl
  | 2, _ =>
    refine ⟨2, ?_⟩
    refine Sp.of_vc [] [.tmp 2] Tryz.func164 rfl (by kernel_rfl) Tryz.ntmps164 rfl (by simp) ?_
    simp (decide := true) only [go_sem, ↓reduceIte, reduceCtorEq, reduceLT, reduceEqDiff, Nat.reduceBEq, reduceAdd, reduceMul, reduceSub, reduceLeDiff, reduceReplicate]
    change putK _ _ _ (some (D.sc (Value.int IntKind.u8 2)))
    simp (decide := true) only [go_sem, ↓reduceIte, reduceCtorEq, reduceLT, reduceEqDiff, Nat.reduceBEq, reduceAdd, reduceMul, reduceSub, reduceLeDiff, reduceReplicate]
    exact Fz.int rfl
  | 3, _ =>
    refine ⟨2, ?_⟩
    refine Sp.of_vc [] [.tmp 2] Tryz.func164 rfl (by kernel_rfl) Tryz.ntmps164 rfl (by simp) ?_
    simp (decide := true) only [go_sem, ↓reduceIte, reduceCtorEq, reduceLT, reduceEqDiff, Nat.reduceBEq, reduceAdd, reduceMul, reduceSub, reduceLeDiff, reduceReplicate]
    change putK _ _ _ (some (D.sc (Value.int IntKind.u8 2)))
    simp (decide := true) only [go_sem, ↓reduceIte, reduceCtorEq, reduceLT, reduceEqDiff, Nat.reduceBEq, reduceAdd, reduceMul, reduceSub, reduceLeDiff, reduceReplicate]
    exact Fz.int rfl
  | 4, _ =>
    refine ⟨3, ?_⟩
    refine Sp.of_vc [] [.tmp 2] Tryz.func164 rfl (by kernel_rfl) Tryz.ntmps164 rfl (by simp) ?_
    simp (decide := true) only [go_sem, ↓reduceIte, reduceCtorEq, reduceLT, reduceEqDiff, Nat.reduceBEq, reduceAdd, reduceMul, reduceSub, reduceLeDiff, reduceReplicate]
    change putK _ _ _ (some (D.sc (Value.int IntKind.u8 3)))
    simp (decide := true) only [go_sem, ↓reduceIte, reduceCtorEq, reduceLT, reduceEqDiff, Nat.reduceBEq, reduceAdd, reduceMul, reduceSub, reduceLeDiff, reduceReplicate]
    exact Fz.int rfl
  | 5, _ =>
    refine ⟨3, ?_⟩
    refine Sp.of_vc [] [.tmp 2] Tryz.func164 rfl (by kernel_rfl) Tryz.ntmps164 rfl (by simp) ?_
    simp (decide := true) only [go_sem, ↓reduceIte, reduceCtorEq, reduceLT, reduceEqDiff, Nat.reduceBEq, reduceAdd, reduceMul, reduceSub, reduceLeDiff, reduceReplicate]
    change putK _ _ _ (some (D.sc (Value.int IntKind.u8 3)))
    simp (decide := true) only [go_sem, ↓reduceIte, reduceCtorEq, reduceLT, reduceEqDiff, Nat.reduceBEq, reduceAdd, reduceMul, reduceSub, reduceLeDiff, reduceReplicate]
    exact Fz.int rfl
  | 6, _ =>
    refine ⟨3, ?_⟩
    refine Sp.of_vc [] [.tmp 2] Tryz.func164 rfl (by kernel_rfl) Tryz.ntmps164 rfl (by simp) ?_
    simp (decide := true) only [go_sem, ↓reduceIte, reduceCtorEq, reduceLT, reduceEqDiff, Nat.reduceBEq, reduceAdd, reduceMul, reduceSub, reduceLeDiff, reduceReplicate]
    change putK _ _ _ (some (D.sc (Value.int IntKind.u8 3)))
    simp (decide := true) only [go_sem, ↓reduceIte, reduceCtorEq, reduceLT, reduceEqDiff, Nat.reduceBEq, reduceAdd, reduceMul, reduceSub, reduceLeDiff, reduceReplicate]
    exact Fz.int rfl
  | 7, _ =>
    refine ⟨3, ?_⟩
    refine Sp.of_vc [] [.tmp 2] Tryz.func164 rfl (by kernel_rfl) Tryz.ntmps164 rfl (by simp) ?_
    simp (decide := true) only [go_sem, ↓reduceIte, reduceCtorEq, reduceLT, reduceEqDiff, Nat.reduceBEq, reduceAdd, reduceMul, reduceSub, reduceLeDiff, reduceReplicate]
    change putK _ _ _ (some (D.sc (Value.int IntKind.u8 3)))
    simp (decide := true) only [go_sem, ↓reduceIte, reduceCtorEq, reduceLT, reduceEqDiff, Nat.reduceBEq, reduceAdd, reduceMul, reduceSub, reduceLeDiff, reduceReplicate]
    exact Fz.int rfl
  | 8, _ =>
    refine ⟨4, ?_⟩
    refine Sp.of_vc [] [.tmp 2] Tryz.func164 rfl (by kernel_rfl) Tryz.ntmps164 rfl (by simp) ?_
    simp (decide := true) only [go_sem, ↓reduceIte, reduceCtorEq, reduceLT, reduceEqDiff, Nat.reduceBEq, reduceAdd, reduceMul, reduceSub, reduceLeDiff, reduceReplicate]
    change putK _ _ _ (some (D.sc (Value.int IntKind.u8 4)))
    simp (decide := true) only [go_sem, ↓reduceIte, reduceCtorEq, reduceLT, reduceEqDiff, Nat.reduceBEq, reduceAdd, reduceMul, reduceSub, reduceLeDiff, reduceReplicate]
    exact Fz.int rfl
  | 9, _ =>
    refine ⟨4, ?_⟩
    refine Sp.of_vc [] [.tmp 2] Tryz.func164 rfl (by kernel_rfl) Tryz.ntmps164 rfl (by simp) ?_
    simp (decide := true) only [go_sem, ↓reduceIte, reduceCtorEq, reduceLT, reduceEqDiff, Nat.reduceBEq, reduceAdd, reduceMul, reduceSub, reduceLeDiff, reduceReplicate]
    change putK _ _ _ (some (D.sc (Value.int IntKind.u8 4)))
    simp (decide := true) only [go_sem, ↓reduceIte, reduceCtorEq, reduceLT, reduceEqDiff, Nat.reduceBEq, reduceAdd, reduceMul, reduceSub, reduceLeDiff, reduceReplicate]
    exact Fz.int rfl
  | 10, _ =>
    refine ⟨4, ?_⟩
    refine Sp.of_vc [] [.tmp 2] Tryz.func164 rfl (by kernel_rfl) Tryz.ntmps164 rfl (by simp) ?_
    simp (decide := true) only [go_sem, ↓reduceIte, reduceCtorEq, reduceLT, reduceEqDiff, Nat.reduceBEq, reduceAdd, reduceMul, reduceSub, reduceLeDiff, reduceReplicate]
    change putK _ _ _ (some (D.sc (Value.int IntKind.u8 4)))
    simp (decide := true) only [go_sem, ↓reduceIte, reduceCtorEq, reduceLT, reduceEqDiff, Nat.reduceBEq, reduceAdd, reduceMul, reduceSub, reduceLeDiff, reduceReplicate]
    exact Fz.int rfl
  | 11, _ =>
    refine ⟨4, ?_⟩
    refine Sp.of_vc [] [.tmp 2] Tryz.func164 rfl (by kernel_rfl) Tryz.ntmps164 rfl (by simp) ?_
    simp (decide := true) only [go_sem, ↓reduceIte, reduceCtorEq, reduceLT, reduceEqDiff, Nat.reduceBEq, reduceAdd, reduceMul, reduceSub, reduceLeDiff, reduceReplicate]
    change putK _ _ _ (some (D.sc (Value.int IntKind.u8 4)))
    simp (decide := true) only [go_sem, ↓reduceIte, reduceCtorEq, reduceLT, reduceEqDiff, Nat.reduceBEq, reduceAdd, reduceMul, reduceSub, reduceLeDiff, reduceReplicate]
    exact Fz.int rfl
  | 12, _ =>
    refine ⟨4, ?_⟩
    refine Sp.of_vc [] [.tmp 2] Tryz.func164 rfl (by kernel_rfl) Tryz.ntmps164 rfl (by simp) ?_
    simp (decide := true) only [go_sem, ↓reduceIte, reduceCtorEq, reduceLT, reduceEqDiff, Nat.reduceBEq, reduceAdd, reduceMul, reduceSub, reduceLeDiff, reduceReplicate]
    change putK _ _ _ (some (D.sc (Value.int IntKind.u8 4)))
    simp (decide := true) only [go_sem, ↓reduceIte, reduceCtorEq, reduceLT, reduceEqDiff, Nat.reduceBEq, reduceAdd, reduceMul, reduceSub, reduceLeDiff, reduceReplicate]
    exact Fz.int rfl
theorem bitsLen (k : Nat) (h : k ≤ 12) : ∃ r : Int, Sp Tryz.prog 122 [.sc (.int .u64 k)] (I r) := by
  obtain ⟨r, hr⟩ := len64 k h
  refine ⟨r, ?_⟩
  refine Sp.of_vc [] [.tmp 2] Tryz.func122 rfl (by kernel_rfl) Tryz.ntmps122 rfl (by simp) ?_
  simp only [go_sem, ↓reduceIte, reduceCtorEq, reduceLT, reduceEqDiff, Nat.reduceBEq, reduceAdd, reduceMul, reduceSub, reduceLeDiff, reduceReplicate]
  refine callK_intro _ hr (by simp only [List.nil_append, List.append_nil, List.forall_mem_cons]; exact ⟨cl_sc _, by simp⟩) ?_
  simp only [go_sem, ↓reduceIte, reduceCtorEq, reduceLT, reduceEqDiff, Nat.reduceBEq, reduceAdd, reduceMul, reduceSub, reduceLeDiff, reduceReplicate]
  exact Fz.int rfl
theorem lst_closeW {s : St} {l : List Int} {n : Nat} (h : Lst [0] s.H 2 1 (Z l) (.ms 0 0 n)) : closeW 2 1 (Z l) s := by
  rcases h with ⟨_, h⟩ | ⟨t, gn, _, h, hH⟩
  · cases h
  · cases h
    exact ⟨_, hH, rfl, rfl, rfl, rfl, rfl⟩
theorem pdqsort (l : List Int) (hl : l.length ≤ 12) (lim : Int) : SpW Tryz.prog 121 [I 0, I l.length, I lim] 2 1 (Z l) (Z (srtF l)) (.tp []) := by
  have hin := insertionSort l (by omega)
  have w1 : IntKind.i64.wrap ((l.length : Int) - 0) = l.length := by rw [Go.IntWalk.i64_in _ (by omega)]; omega
  have w2 : decide ((l.length : Int) ≤ 12) = true := decide_eq_true (by omega)
  refine SpW.of_vc [] [] Tryz.func121 rfl (by kernel_rfl) Tryz.ntmps121 rfl (by simp) ?_ ?_ ?_ rfl ?_ ?_
  · simp [(srtF_perm l).length_eq]
  · exact cl_Zf l
  · exact cl_Zf _
  · intro h
    simp only [w1, w2, go_sem, ↓reduceIte, reduceCtorEq, reduceLT, reduceEqDiff, Nat.reduceBEq, reduceAdd, reduceMul, reduceSub, reduceLeDiff, reduceReplicate]
    refine loop_meas (fun s => s.nt = 134 ∧ s.env 0 = .sc (.slice none 0 0) ∧ s.env 1 = I 0 ∧ s.env 2 = I l.length) (fun _ => 0) ⟨rfl, by simp [setE, envOf], by simp [setE, envOf], by simp [setE, envOf]⟩ ?_
    rintro ⟨env, H, n, nt, T⟩ ⟨rfl, e0, e1, e2⟩
    simp only at e0 e1 e2
    simp only [e0, e1, e2, w1, w2, go_sem, ↓reduceIte, reduceCtorEq, reduceLT, reduceEqDiff, Nat.reduceBEq, reduceAdd, reduceMul, reduceSub, reduceLeDiff, reduceReplicate]
    refine callK_write [] [I 0, I l.length] _ 2 1 _ _ _ hin rfl (.inl ⟨h, rfl⟩) (by simp only [List.forall_mem_cons]; exact ⟨cl_sc _, cl_sc _, by simp⟩) ?_
    intro H' hx hH
    simp only [go_sem, ↓reduceIte, reduceCtorEq, reduceLT, reduceEqDiff, Nat.reduceBEq, reduceAdd, reduceMul, reduceSub, reduceLeDiff, reduceReplicate]
    exact .inl trivial
  · simp only [stL, w1, w2, List.length_map, List.length_nil, go_sem, ↓reduceIte, reduceCtorEq, reduceLT, reduceEqDiff, Nat.reduceBEq, reduceAdd, reduceMul, reduceSub, reduceLeDiff, reduceReplicate]
    refine loop_meas (fun s => s.nt = 134 ∧ s.env 0 = .ms 0 0 l.length ∧ s.env 1 = I 0 ∧ s.env 2 = I l.length ∧ s.H 0 = some ⟨0, 2, 1, (Z l).flatten, none⟩) (fun _ => 0) ⟨rfl, by simp [setE, envOf], by simp [setE, envOf], by simp [setE, envOf], by simp [upd]⟩ ?_
    rintro ⟨env, H, n, nt, T⟩ ⟨rfl, e0, e1, e2, eH⟩
    simp only at e0 e1 e2 eH
    simp only [e0, e1, e2, w1, w2, go_sem, ↓reduceIte, reduceCtorEq, reduceLT, reduceEqDiff, Nat.reduceBEq, reduceAdd, reduceMul, reduceSub, reduceLeDiff, reduceReplicate]
    refine callK_write [0] [I 0, I l.length] _ 2 1 _ _ _ hin rfl (.inr ⟨0, 0, by simp, by simp, eH⟩) (by simp only [List.forall_mem_cons]; exact ⟨cl_sc _, cl_sc _, by simp⟩) ?_
    intro H' hx hH
    simp only [go_sem, ↓reduceIte, reduceCtorEq, reduceLT, reduceEqDiff, Nat.reduceBEq, reduceAdd, reduceMul, reduceSub, reduceLeDiff, reduceReplicate]
    exact lst_closeW hx
theorem sort (l : List Int) (hl : l.length ≤ 12) : SpW Tryz.prog 93 [] 2 1 (Z l) (Z (srtF l)) (.tp []) := by
  obtain ⟨lim, hb⟩ := bitsLen l.length hl
  have hp := pdqsort l hl lim
  have w1 : IntKind.u64.wrap (l.length : Int) = l.length := by
    simp only [IntKind.wrap, IntKind.bits, IntKind.signed, Bool.false_and, Bool.false_eq_true, if_false]
    omega
  refine SpW.of_vc [] [] Tryz.func93 rfl (by kernel_rfl) Tryz.ntmps93 rfl (by simp) ?_ ?_ ?_ rfl ?_ ?_
  · simp [(srtF_perm l).length_eq]
  · exact cl_Zf l
  · exact cl_Zf _
  · intro h
    have hl0 := sort_nil l h
    have w0 : IntKind.u64.wrap 0 = 0 := rfl
    rw [hl0] at hb hp
    simp only [w0, go_sem, ↓reduceIte, reduceCtorEq, reduceLT, reduceEqDiff, Nat.reduceBEq, reduceAdd, reduceMul, reduceSub, reduceLeDiff, reduceReplicate]
    refine callK_intro _ hb (by simp only [List.nil_append, List.append_nil, List.forall_mem_cons]; exact ⟨cl_sc _, by simp⟩) ?_
    simp only [go_sem, ↓reduceIte, reduceCtorEq, reduceLT, reduceEqDiff, Nat.reduceBEq, reduceAdd, reduceMul, reduceSub, reduceLeDiff, reduceReplicate]
    rw [hl0]
    refine callK_write [] [I 0, I 0, I lim] _ 2 1 _ _ _ hp rfl (.inl ⟨rfl, rfl⟩) (by simp only [List.forall_mem_cons]; exact ⟨cl_sc _, cl_sc _, cl_sc _, by simp⟩) ?_
    intro H' hx hH
    simp only [go_sem, ↓reduceIte, reduceCtorEq, reduceLT, reduceEqDiff, Nat.reduceBEq, reduceAdd, reduceMul, reduceSub, reduceLeDiff, reduceReplicate]
    exact .inl trivial
  · simp only [stL, w1, List.length_map, List.length_nil, go_sem, ↓reduceIte, reduceCtorEq, reduceLT, reduceEqDiff, Nat.reduceBEq, reduceAdd, reduceMul, reduceSub, reduceLeDiff, reduceReplicate]
    refine callK_intro _ hb (by simp only [List.nil_append, List.append_nil, List.forall_mem_cons]; exact ⟨cl_sc _, by simp⟩) ?_
    simp only [go_sem, ↓reduceIte, reduceCtorEq, reduceLT, reduceEqDiff, Nat.reduceBEq, reduceAdd, reduceMul, reduceSub, reduceLeDiff, reduceReplicate]
    refine callK_write [0] [I 0, I l.length, I lim] _ 2 1 _ _ _ hp rfl (.inr ⟨0, 0, by simp, by simp, by simp [upd]⟩) (by simp only [List.forall_mem_cons]; exact ⟨cl_sc _, cl_sc _, cl_sc _, by simp⟩) ?_
    intro H' hx hH
    simp only [go_sem, ↓reduceIte, reduceCtorEq, reduceLT, reduceEqDiff, Nat.reduceBEq, reduceAdd, reduceMul, reduceSub, reduceLeDiff, reduceReplicate]
    exact lst_closeW hx
end Go.Proofs.YtcidmkcicagpaaaGreat
