/-
  Rising lists of the reference. No condition.
-/
import Derived.Test.YtcidmkcicagpaaaGreatP22
set_option maxRecDepth 100000
set_option linter.unusedSimpArgs false
set_option linter.unusedVariables false
namespace Go.Proofs.YtcidmkcicagpaaaGreat
open Go.Fw
open Nat (reduceLT reduceEqDiff reduceAdd reduceMul reduceSub reduceLeDiff)
open List (reduceReplicate)
theorem l00Has (l : List Int) (v : Int) (hl : l.length ≤ 1048576) : Sp Tryz.prog 47 [.sl 1 (Z l), I v] (B (decide (v ∈ l))) := by
  have hda : (Z l).length = l.length := Z_l l
  rw [← any_mem]
  refine Sp.of_vc [] [.tmp 4] Tryz.func47 rfl (by kernel_rfl) Tryz.ntmps47 rfl (by simp) ?_
  simp only [go_sem, ↓reduceIte, reduceCtorEq, reduceLT, reduceEqDiff, Nat.reduceBEq, reduceAdd, reduceMul, reduceSub, reduceLeDiff, reduceReplicate, hda]
  refine loop_count 5 l.length (fun k => Fw.Inv 18 [(0, .sl 1 (Z l)), (1, I v)] ((l.take k).any (fun x => decide (x = v)) = false)) rfl ⟨rfl, by simp [envOf, setE], by simp⟩ ?_
  rintro k ⟨env, H, n, nt⟩ hk h5 ⟨rfl, hfs, hp⟩
  simp only [List.forall_mem_cons] at h5 hfs
  obtain ⟨e0, e1, -⟩ := hfs
  simp only [h5, e0, hda, go_sem, ↓reduceIte, reduceCtorEq, reduceLT, reduceEqDiff, Nat.reduceBEq, reduceAdd, reduceMul, reduceSub, reduceLeDiff, reduceReplicate]
  refine condK_split (fun h => ?_) (fun h => ?_)
  · have hlt : k < l.length := by simpa using h
    have g0 := Z_get l k hlt
    simp only [h, h5, e0, e1, g0, hda, go_sem, ↓reduceIte, reduceCtorEq, reduceLT, reduceEqDiff, Nat.reduceBEq, reduceAdd, reduceMul, reduceSub, reduceLeDiff, reduceReplicate]
    by_cases hc : l[k] = v
    · have f1 : (l[k] == v) = true := by simp [hc]
      simp only [f1, go_sem, ↓reduceIte, reduceCtorEq, reduceLT, reduceEqDiff, Nat.reduceBEq, reduceAdd, reduceMul, reduceSub, reduceLeDiff, reduceReplicate]
      refine Fz.bool ?_
      symm
      rw [List.any_eq_true]
      exact ⟨l[k], List.getElem_mem hlt, by simp [hc]⟩
    · have f1 : (l[k] == v) = false := by simp [hc]
      simp only [f1, h5, go_sem, ↓reduceIte, reduceCtorEq, reduceLT, reduceEqDiff, Nat.reduceBEq, reduceAdd, reduceMul, reduceSub, reduceLeDiff, reduceReplicate]
      refine nextC_mk (by simp [setE, wrap_succ k (by omega)]) hlt ⟨rfl, by simp [setE, e0, e1], ?_⟩
      rw [any_take_succ hlt, hp]; simp [hc]
  · have hk' : k = l.length := by simp at h; omega
    simp only [h, go_sem, ↓reduceIte, reduceCtorEq, reduceLT, reduceEqDiff, Nat.reduceBEq, reduceAdd, reduceMul, reduceSub, reduceLeDiff, reduceReplicate]
    refine Fz.bool ?_
    rw [hk', List.take_length] at hp
    rw [hp]
theorem putF_pre {n : Int} {r : List Int} : ∀ {p : List Int}, (∀ x ∈ p, x < n) → putF (p ++ r) n = p ++ putF r n
  | [], _ => rfl
  | y :: p, h => by
    have := h y (by simp)
    rw [List.cons_append, putF, if_neg (by omega), putF_pre fun x hx => h x (by simp [hx])]
    rfl
def PutI (l : List Int) (n : Int) (i : Nat) (dn : Bool) (out : List Int) : Prop := match dn with
  | true => out ++ l.drop i = putF l n
  | false => (∀ x ∈ l.take i, x < n) ∧ out = l.take i
theorem putI_len {l : List Int} {n : Int} {i : Nat} {dn : Bool} {out : List Int} (h : PutI l n i dn out) : out.length ≤ l.length + 1 := by
  cases dn with
  | true =>
    have h1 := congrArg List.length h
    have h2 := (len_putF_le (x := n) l).2
    simp at h1; omega
  | false => rw [h.2]; simp; omega
theorem drop_at {l : List Int} {i : Nat} (h : i < l.length) : l.drop i = l[i] :: l.drop (i + 1) := List.drop_eq_getElem_cons h
theorem putI_tt {l : List Int} {n : Int} {i : Nat} {out : List Int} (hi : i < l.length) (h : PutI l n i true out) : PutI l n (i + 1) true (out ++ [l[i]]) := by
  simp only [PutI] at h ⊢
  rw [← h, drop_at hi]; simp
theorem putI_at {l : List Int} {n : Int} {i : Nat} {out : List Int} (hi : i < l.length) (h : PutI l n i false out) : putF l n = out ++ putF (l[i] :: l.drop (i + 1)) n := by
  obtain ⟨h1, rfl⟩ := h
  rw [← drop_at hi, ← putF_pre h1, List.take_append_drop]
theorem putI_gt {l : List Int} {n : Int} {i : Nat} {out : List Int} (hi : i < l.length) (h : PutI l n i false out) (hx : l[i] > n) : PutI l n (i + 1) true (out ++ [n] ++ [l[i]]) := by
  simp only [PutI]
  rw [putI_at hi h, putF, if_pos (by omega), if_pos hx]; simp
theorem putI_eq {l : List Int} {n : Int} {i : Nat} {out : List Int} (hi : i < l.length) (h : PutI l n i false out) (hx : l[i] ≥ n) (hx2 : ¬ l[i] > n) : PutI l n (i + 1) true (out ++ [l[i]]) := by
  simp only [PutI]
  rw [putI_at hi h, putF, if_pos hx, if_neg hx2]; simp
theorem putI_lt {l : List Int} {n : Int} {i : Nat} {out : List Int} (hi : i < l.length) (h : PutI l n i false out) (hx : ¬ l[i] ≥ n) : PutI l n (i + 1) false (out ++ [l[i]]) := by
  obtain ⟨h1, rfl⟩ := h
  rw [← List.take_succ_eq_append_getElem hi]
  refine ⟨fun x hm => ?_, rfl⟩
  rw [List.take_succ_eq_append_getElem hi, List.mem_append, List.mem_singleton] at hm
  rcases hm with hm | rfl
  · exact h1 x hm
  · omega
theorem l00Put (l : List Int) (v : Int) (hl : l.length ≤ 1048576) : Sp Tryz.prog 48 [.sl 1 (Z l), I v] (.sl 1 (Z (putF l v))) := by
  have hda : (Z l).length = l.length := Z_l l
  have el : elemInfo Tryz.prog 58 = some (2, 1, 8) := by kernel_rfl
  refine Sp.of_vc [1000034, 1000041, 1000047] [.tmp 4] Tryz.func48 rfl (by kernel_rfl) Tryz.ntmps48 rfl (by simp) ?_
  simp only [go_sem, ↓reduceIte, reduceCtorEq, reduceLT, reduceEqDiff, Nat.reduceBEq, reduceAdd, reduceMul, reduceSub, reduceLeDiff, reduceReplicate, hda]
  refine loop_count 7 l.length (fun i => Fw.InvE 49 [(0, .sl 1 (Z l)), (1, I v)] fun env H n T => ∃ (dn : Bool) (out : List Int), env 6 = B dn ∧ Lst [8, 34, 41] H 2 1 (Z out) (env 5) ∧ PutI l v i dn out) rfl ⟨rfl, by simp [envOf, setE], ⟨false, [], by simp [setE], by simp [setE]; exact .inr ⟨8, _, by simp, rfl, by simp [upd]⟩, by simp [PutI]⟩⟩ ?_
  rintro i ⟨env, H, n, nt, T⟩ hi h5 ⟨rfl, hfs, ⟨dn, out, e6, hx, hP⟩⟩
  simp only [List.forall_mem_cons] at h5 hfs e6 hx
  obtain ⟨e0, e1, -⟩ := hfs
  obtain ⟨y, e5⟩ : ∃ y, env 5 = y := ⟨_, rfl⟩
  rw [e5] at hx
  have hol := putI_len hP
  simp only [h5, e0, hda, go_sem, ↓reduceIte, reduceCtorEq, reduceLT, reduceEqDiff, Nat.reduceBEq, reduceAdd, reduceMul, reduceSub, reduceLeDiff, reduceReplicate]
  refine condK_split (fun h => ?_) (fun h => ?_)
  · have hlt : i < l.length := by simpa using h
    have g0 := Z_get l i hlt
    simp only [h, h5, e0, e1, e5, e6, g0, hda, go_sem, ↓reduceIte, reduceCtorEq, reduceLT, reduceEqDiff, Nat.reduceBEq, reduceAdd, reduceMul, reduceSub, reduceLeDiff, reduceReplicate]
    cases dn with
    | true =>
      simp only [h5, e0, e1, e5, e6, g0, hda, go_sem, ↓reduceIte, reduceCtorEq, reduceLT, reduceEqDiff, Nat.reduceBEq, reduceAdd, reduceMul, reduceSub, reduceLeDiff, reduceReplicate]
      refine GK.intro (opK.app (S := [8, 34, 41]) (rows := Z (out)) (rows2 := Z [l[i]]) el (by simp only [setE, if_true, reduceCtorEq, if_false, Nat.reduceEqDiff]; exact (hx).congr (by simp [upd])) (Z_len _) (by simp [setE, newsD, upd]) (by simp) (by simp [oneD, Value.oneCell']) (by rw [Z_l, Z_l]; simp; omega) (by rw [Z_l, Z_l]; unfold maxLen; simp; omega) fun H' n' x' hx' hH => ?_)
      rw [← Z_app] at hx'
      simp only [h5, go_sem, ↓reduceIte, reduceCtorEq, reduceLT, reduceEqDiff, Nat.reduceBEq, reduceAdd, reduceMul, reduceSub, reduceLeDiff, reduceReplicate]
      refine nextC_mk (by simp [setE, wrap_succ i (by omega)]) hlt ⟨rfl, by simp [setE, e0, e1], ⟨true, out ++ [l[i]], by simp [setE, e6], ?_, putI_tt hlt hP⟩⟩
      simpa [setE] using (hx').sub (S' := [8, 34, 41]) (by simp)
    | false =>
      by_cases c1 : l[i] ≥ v
      · simp only [decide_eq_true c1, h5, e0, e1, e5, e6, g0, hda, go_sem, ↓reduceIte, reduceCtorEq, reduceLT, reduceEqDiff, Nat.reduceBEq, reduceAdd, reduceMul, reduceSub, reduceLeDiff, reduceReplicate]
        by_cases c2 : l[i] > v
        · simp only [decide_eq_true c2, h5, e0, e1, e5, e6, g0, hda, go_sem, ↓reduceIte, reduceCtorEq, reduceLT, reduceEqDiff, Nat.reduceBEq, reduceAdd, reduceMul, reduceSub, reduceLeDiff, reduceReplicate]
          refine GK.intro (opK.app (S := [8, 34, 41]) (rows := Z (out)) (rows2 := Z [v]) el (by simp only [setE, if_true, reduceCtorEq, if_false, Nat.reduceEqDiff]; exact (hx).congr (by simp [upd])) (Z_len _) (by simp [setE, newsD, upd]) (by simp) (by simp [oneD, Value.oneCell']) (by rw [Z_l, Z_l]; simp; omega) (by rw [Z_l, Z_l]; unfold maxLen; simp; omega) fun H' n' x' hy hH => ?_)
          rw [← Z_app] at hy
          simp only [h5, e0, e1, e5, e6, g0, hda, go_sem, ↓reduceIte, reduceCtorEq, reduceLT, reduceEqDiff, Nat.reduceBEq, reduceAdd, reduceMul, reduceSub, reduceLeDiff, reduceReplicate]
          refine GK.intro (opK.app (S := [34]) (rows := Z (out ++ [v])) (rows2 := Z [l[i]]) el (by simp only [setE, if_true, reduceCtorEq, if_false, Nat.reduceEqDiff]; exact (hy).congr (by simp [upd])) (Z_len _) (by simp [setE, newsD, upd]) (by simp) (by simp [oneD, Value.oneCell']) (by rw [Z_l, Z_l]; simp; omega) (by rw [Z_l, Z_l]; unfold maxLen; simp; omega) fun H' n' x' hx' hH => ?_)
          rw [← Z_app] at hx'
          simp only [h5, go_sem, ↓reduceIte, reduceCtorEq, reduceLT, reduceEqDiff, Nat.reduceBEq, reduceAdd, reduceMul, reduceSub, reduceLeDiff, reduceReplicate]
          refine nextC_mk (by simp [setE, wrap_succ i (by omega)]) hlt ⟨rfl, by simp [setE, e0, e1], ⟨true, out ++ [v] ++ [l[i]], by simp [setE, e6], ?_, putI_gt hlt hP c2⟩⟩
          simpa [setE] using (hx').sub (S' := [8, 34, 41]) (by simp)
        · simp only [decide_eq_false c2, h5, e0, e1, e5, e6, g0, hda, go_sem, ↓reduceIte, reduceCtorEq, reduceLT, reduceEqDiff, Nat.reduceBEq, reduceAdd, reduceMul, reduceSub, reduceLeDiff, reduceReplicate]
          refine GK.intro (opK.app (S := [8, 34, 41]) (rows := Z (out)) (rows2 := Z [l[i]]) el (by simp only [setE, if_true, reduceCtorEq, if_false, Nat.reduceEqDiff]; exact (hx).congr (by simp [upd])) (Z_len _) (by simp [setE, newsD, upd]) (by simp) (by simp [oneD, Value.oneCell']) (by rw [Z_l, Z_l]; simp; omega) (by rw [Z_l, Z_l]; unfold maxLen; simp; omega) fun H' n' x' hx' hH => ?_)
          rw [← Z_app] at hx'
          simp only [h5, go_sem, ↓reduceIte, reduceCtorEq, reduceLT, reduceEqDiff, Nat.reduceBEq, reduceAdd, reduceMul, reduceSub, reduceLeDiff, reduceReplicate]
          refine nextC_mk (by simp [setE, wrap_succ i (by omega)]) hlt ⟨rfl, by simp [setE, e0, e1], ⟨true, out ++ [l[i]], by simp [setE, e6], ?_, putI_eq hlt hP c1 c2⟩⟩
          simpa [setE] using (hx').sub (S' := [8, 34, 41]) (by simp)
      · simp only [decide_eq_false c1, h5, e0, e1, e5, e6, g0, hda, go_sem, ↓reduceIte, reduceCtorEq, reduceLT, reduceEqDiff, Nat.reduceBEq, reduceAdd, reduceMul, reduceSub, reduceLeDiff, reduceReplicate]
        refine GK.intro (opK.app (S := [8, 34, 41]) (rows := Z (out)) (rows2 := Z [l[i]]) el (by simp only [setE, if_true, reduceCtorEq, if_false, Nat.reduceEqDiff]; exact (hx).congr (by simp [upd])) (Z_len _) (by simp [setE, newsD, upd]) (by simp) (by simp [oneD, Value.oneCell']) (by rw [Z_l, Z_l]; simp; omega) (by rw [Z_l, Z_l]; unfold maxLen; simp; omega) fun H' n' x' hx' hH => ?_)
        rw [← Z_app] at hx'
        simp only [h5, go_sem, ↓reduceIte, reduceCtorEq, reduceLT, reduceEqDiff, Nat.reduceBEq, reduceAdd, reduceMul, reduceSub, reduceLeDiff, reduceReplicate]
        refine nextC_mk (by simp [setE, wrap_succ i (by omega)]) hlt ⟨rfl, by simp [setE, e0, e1], ⟨false, out ++ [l[i]], by simp [setE, e6], ?_, putI_lt hlt hP c1⟩⟩
        simpa [setE] using (hx').sub (S' := [8, 34, 41]) (by simp)
  · have hi' : i = l.length := by simp at h; omega
    subst hi'
    cases dn with
    | true =>
      have hP' : out = putF l v := by simpa [PutI] using hP
      simp only [h, e5, e6, go_sem, ↓reduceIte, reduceCtorEq, reduceLT, reduceEqDiff, Nat.reduceBEq, reduceAdd, reduceMul, reduceSub, reduceLeDiff, reduceReplicate]
      rw [← hP']
      exact hx.fz (by decide) (Z_len _) (Z_cl _)
    | false =>
      obtain ⟨hP1, hP2⟩ := hP
      rw [List.take_length] at hP1 hP2
      have hP' : out ++ [v] = putF l v := by
        have := putF_pre (n := v) (r := []) hP1
        rw [List.append_nil] at this
        rw [this, hP2]; rfl
      simp only [h, e1, e5, e6, go_sem, ↓reduceIte, reduceCtorEq, reduceLT, reduceEqDiff, Nat.reduceBEq, reduceAdd, reduceMul, reduceSub, reduceLeDiff, reduceReplicate]
      refine GK.intro (opK.app (S := [8, 34, 41]) (rows := Z (out)) (rows2 := Z [v]) el (by simp only [setE, if_true, reduceCtorEq, if_false, Nat.reduceEqDiff]; exact (hx).congr (by simp [upd])) (Z_len _) (by simp [setE, newsD, upd]) (by simp) (by simp [oneD, Value.oneCell']) (by rw [Z_l, Z_l]; simp; omega) (by rw [Z_l, Z_l]; unfold maxLen; simp; omega) fun H' n' x' hx' hH => ?_)
      rw [← Z_app] at hx'
      simp only [go_sem, ↓reduceIte, reduceCtorEq, reduceLT, reduceEqDiff, Nat.reduceBEq, reduceAdd, reduceMul, reduceSub, reduceLeDiff, reduceReplicate]
      rw [← hP']
      exact hx'.fz (by decide) (Z_len _) (Z_cl _)
end Go.Proofs.YtcidmkcicagpaaaGreat
