/-
  Contracts over data of the fields of terms, of the program and of the reference. No condition.
-/
import Derived.Test.YtcidmkcicagpaaaGreatP3
namespace Go.Proofs.YtcidmkcicagpaaaGreat
open Go.Fw
open Nat (reduceLT reduceEqDiff reduceAdd reduceMul reduceSub reduceLeDiff)
open List (reduceReplicate)
open Classical
set_option maxRecDepth 100000
set_option linter.unusedSimpArgs false
set_option linter.unusedVariables false
theorem equalFuncTyp (a b : List Typ) (f : FuncId) (ha : a.length ≤ maxLen) (hel : ∀ x ∈ a, ∀ y, Sp Tryz.prog f [.ag x.ds, .ag y.ds] (B (decide (x = y)))) : Sp Tryz.prog 191 [Typ.sl a, Typ.sl b, .fn f [] []] (B (decide (a = b))) := by
  unfold maxLen at ha
  have hda : (Typ.dsL a).length = a.length := Typ.dsL_len a
  have hdb : (Typ.dsL b).length = b.length := Typ.dsL_len b
  refine Sp.of_vc [] [.tmp 6] Tryz.func191 rfl (by kernel_rfl) Tryz.ntmps191 rfl (by simp) ?_
  simp only [go_sem, ↓reduceIte, reduceCtorEq, reduceLT, reduceEqDiff, Nat.reduceBEq, reduceAdd, reduceMul, reduceSub, reduceLeDiff, reduceReplicate, hda, hdb]
  refine condK_split (fun h => ?_) (fun h => ?_)
  · simp only [h, go_sem, ↓reduceIte, reduceCtorEq, reduceLT, reduceEqDiff, Nat.reduceBEq, reduceAdd, reduceMul, reduceSub, reduceLeDiff, reduceReplicate]
    refine Fz.bool ?_
    simp at h ⊢
    intro e; subst e; simp at h
  · have hl : a.length = b.length := by simp at h; omega
    simp only [h, go_sem, ↓reduceIte, reduceCtorEq, reduceLT, reduceEqDiff, Nat.reduceBEq, reduceAdd, reduceMul, reduceSub, reduceLeDiff, reduceReplicate, hda]
    refine loop_count 17 a.length (fun k => Fw.Inv 32 [(0, Typ.sl a), (1, Typ.sl b), (2, .fn f [] []), (15, Typ.sl a), (16, I a.length)] (a.take k = b.take k)) rfl ⟨rfl, by simp [Typ.sl, envOf, setE], by simp⟩ ?_
    rintro k ⟨env, H, n, nt, T⟩ hk h5 ⟨rfl, hfs, hp⟩
    simp only [List.forall_mem_cons, Typ.sl] at h5 hfs
    obtain ⟨e0, e1, e2, e3, e4, -⟩ := hfs
    simp only [h5, e4, hda, go_sem, ↓reduceIte, reduceCtorEq, reduceLT, reduceEqDiff, Nat.reduceBEq, reduceAdd, reduceMul, reduceSub, reduceLeDiff, reduceReplicate]
    refine condK_split (fun h => ?_) (fun h => ?_)
    · have hlt : k < a.length := by simpa using h
      have hlb : k < b.length := by omega
      have g0 := Typ.dsL_get a k hlt
      have g1 := Typ.dsL_get b k hlb
      have hd0 := Typ.ds_len a[k]
      have hd1 := Typ.ds_len b[k]
      have ht0 : List.take 3 a[k].ds = a[k].ds := List.take_of_length_le (by omega)
      have ht1 : List.take 3 b[k].ds = b[k].ds := List.take_of_length_le (by omega)
      have ho0 : (a[k].ds).all oneD = true := by rw [List.all_eq_true]; exact Typ.one a[k]
      have ho1 : (b[k].ds).all oneD = true := by rw [List.all_eq_true]; exact Typ.one b[k]
      simp only [h, h5, e0, e1, e2, e3, e4, g0, g1, hd0, hd1, ht0, ht1, ho0, ho1, List.append_nil, List.drop_of_length_le, List.take_zero, List.nil_append, hd0, go_sem, ↓reduceIte, reduceCtorEq, reduceLT, reduceEqDiff, Nat.reduceBEq, reduceAdd, reduceMul, reduceSub, reduceLeDiff, reduceReplicate]
      refine callK_intro _ (hel a[k] (List.getElem_mem hlt) b[k]) (by simp; exact ⟨Typ.cl _, Typ.cl _⟩) ?_
      by_cases hc : a[k] = b[k]
      · have ec : decide (a[k] = b[k]) = true := by simp [hc]
        simp only [ec, h5, go_sem, ↓reduceIte, reduceCtorEq, reduceLT, reduceEqDiff, Nat.reduceBEq, reduceAdd, reduceMul, reduceSub, reduceLeDiff, reduceReplicate]
        refine nextC_mk (by simp [setE, wrap_succ k (by omega)]) hlt ⟨rfl, by simp [setE, e0, e1, e2, e3, e4, Typ.sl], ?_⟩
        rw [List.take_succ_eq_append_getElem hlt, List.take_succ_eq_append_getElem hlb, hp, hc]
      · have ec : decide (a[k] = b[k]) = false := by simp [hc]
        simp only [ec, go_sem, ↓reduceIte, reduceCtorEq, reduceLT, reduceEqDiff, Nat.reduceBEq, reduceAdd, reduceMul, reduceSub, reduceLeDiff, reduceReplicate]
        refine Fz.bool ?_
        simp
        intro e; subst e; exact hc rfl
    · have hk' : k = a.length := by simp at h; omega
      simp only [h, go_sem, ↓reduceIte, reduceCtorEq, reduceLT, reduceEqDiff, Nat.reduceBEq, reduceAdd, reduceMul, reduceSub, reduceLeDiff, reduceReplicate]
      refine Fz.bool ?_
      rw [hk', List.take_length, hl, List.take_length] at hp
      simp [hp]
theorem nz (k : Nat) : (((0 : Nat) : Int) ≤ (k : Int)) = True := eq_true (by omega)
theorem sameType (a b : Typ) (ha : a.ok) : Sp Tryz.prog 188 [.ag a.ds, .ag b.ds] (B (decide (a = b))) := by
  match a, b, ha with
  | .mk a0 a1 a2, .mk b0 b1 b2, ha =>
  simp only [Typ.ok] at ha
  obtain ⟨o1, o2, p2⟩ := ha
  refine Sp.of_vc [] [.tmp 4] Tryz.func188 rfl (by kernel_rfl) Tryz.ntmps188 rfl (by simp) ?_
  simp only [Typ.ds, go_sem, ↓reduceIte, reduceCtorEq, reduceLT, reduceEqDiff, Nat.reduceBEq, reduceAdd, reduceMul, reduceSub, reduceLeDiff, reduceReplicate]
  by_cases c0 : a0 = b0
  case neg =>
    have f0 : (a0 == b0) = false := by simp [bytes_eq, c0]
    simp only [f0, go_sem, ↓reduceIte, reduceCtorEq, reduceLT, reduceEqDiff, Nat.reduceBEq, reduceAdd, reduceMul, reduceSub, reduceLeDiff, reduceReplicate]
    refine Fz.bool ?_
    symm; rw [decide_eq_false_iff_not]; intro e; apply c0; injection e
  have f0 : (a0 == b0) = true := by simp [bytes_eq, c0]
  simp only [f0, go_sem, ↓reduceIte, reduceCtorEq, reduceLT, reduceEqDiff, Nat.reduceBEq, reduceAdd, reduceMul, reduceSub, reduceLeDiff, reduceReplicate]
  by_cases c1 : a1 = b1
  case neg =>
    have f1 : (a1.toList == b1.toList) = false := by simp [bytes_eq, c1]
    simp only [f1, go_sem, ↓reduceIte, reduceCtorEq, reduceLT, reduceEqDiff, Nat.reduceBEq, reduceAdd, reduceMul, reduceSub, reduceLeDiff, reduceReplicate]
    refine Fz.bool ?_
    symm; rw [decide_eq_false_iff_not]; intro e; apply c1; injection e
  have f1 : (a1.toList == b1.toList) = true := by simp [bytes_eq, c1]
  simp only [f1, go_sem, ↓reduceIte, reduceCtorEq, reduceLT, reduceEqDiff, Nat.reduceBEq, reduceAdd, reduceMul, reduceSub, reduceLeDiff, reduceReplicate]
  refine callK_intro _ (equalFuncTyp a2 b2 _ o2 (fun x hx y => sameType x y (Typ.okS_mem p2 x hx))) (by simp only [List.nil_append, List.append_nil, List.forall_mem_cons]; exact ⟨Typ.cl_sl _, Typ.cl_sl _, Cl.fn' (by simp) (by simp), by simp⟩) ?_
  by_cases c2 : a2 = b2
  case neg =>
    have f2 : decide (a2 = b2) = false := by rw [decide_eq_false_iff_not]; exact c2
    simp only [f2, go_sem, ↓reduceIte, reduceCtorEq, reduceLT, reduceEqDiff, Nat.reduceBEq, reduceAdd, reduceMul, reduceSub, reduceLeDiff, reduceReplicate]
    refine Fz.bool ?_
    symm; rw [decide_eq_false_iff_not]; intro e; apply c2; injection e
  have f2 : decide (a2 = b2) = true := by rw [decide_eq_true_eq]; exact c2
  simp only [f2, go_sem, ↓reduceIte, reduceCtorEq, reduceLT, reduceEqDiff, Nat.reduceBEq, reduceAdd, reduceMul, reduceSub, reduceLeDiff, reduceReplicate]
  refine Fz.bool ?_
  symm; rw [decide_eq_true_eq, c0, c1, c2]
termination_by a
decreasing_by all_goals (have := List.sizeOf_lt_of_mem hx; simp; omega)
noncomputable def plainT (t : Typ) : Bool := decide (t = .mk 0 nE [])
theorem isTypeless (t : Typ) (ho : t.ok) : Sp Tryz.prog 171 [.ag t.ds] (B (plainT t)) := by
  have hd0 := Typ.ds_len t
  have ht0 : List.take 3 t.ds = t.ds := List.take_of_length_le (by omega)
  have ho0 : (t.ds).all oneD = true := by rw [List.all_eq_true]; exact Typ.one t
  have hz : Typ.ds (.mk 0 nE []) = [I 0, S nE, .sl 3 []] := by simp [Typ.ds, Typ.dsL]
  refine Sp.of_vc [] [.tmp 2] Tryz.func171 rfl (by kernel_rfl) Tryz.ntmps171 rfl (by simp) ?_
  simp only [hd0, ht0, ho0, List.take_zero, List.nil_append, go_sem, ↓reduceIte, reduceCtorEq, reduceLT, reduceEqDiff, Nat.reduceBEq, reduceAdd, reduceMul, reduceSub, reduceLeDiff, reduceReplicate]
  refine callK_frz [.ag t.ds, .ag (Typ.ds (.mk 0 nE []))] _ (sameType t _ ho) rfl (by
    simp only [List.nil_append, List.append_nil, List.map_cons, List.map_nil, List.zip_cons_cons, List.zip_nil_right, List.forall_mem_cons]
    refine ⟨.cl _ (Cl.ag' (Typ.cl t)), ?_, by simp⟩
    rw [hz]
    refine Fz.ag2 ?_ rfl
    simp only [List.zip_cons_cons, List.zip_nil_right, List.forall_mem_cons]
    exact ⟨.cl _ (cl_sc _), .cl _ (cl_sc _), .nil 3, by simp⟩) rfl ?_
  simp only [go_sem, ↓reduceIte, reduceCtorEq, reduceLT, reduceEqDiff, Nat.reduceBEq, reduceAdd, reduceMul, reduceSub, reduceLeDiff, reduceReplicate]
  exact Fz.bool rfl
theorem l03NoType (t : Typ) : Sp Tryz.prog 166 [.ag t.ds] (B (plainT t)) := by
  obtain ⟨k, n, ks⟩ := t
  have hda : (Typ.dsL ks).length = ks.length := Typ.dsL_len ks
  have hL : ((ks.length : Int) == 0) = decide (ks = []) := by rw [int_beq, decide_eq_decide, ← List.length_eq_zero_iff]; omega
  refine Sp.of_vc [] [.tmp 2] Tryz.func166 rfl (by kernel_rfl) Tryz.ntmps166 rfl (by simp) ?_
  simp only [Typ.ds, hda, go_sem, ↓reduceIte, reduceCtorEq, reduceLT, reduceEqDiff, Nat.reduceBEq, reduceAdd, reduceMul, reduceSub, reduceLeDiff, reduceReplicate]
  by_cases c1 : k = 0
  case neg =>
    have f1 : (k == 0) = false := by simp [c1]
    simp only [f1, go_sem, ↓reduceIte, reduceCtorEq, reduceLT, reduceEqDiff, Nat.reduceBEq, reduceAdd, reduceMul, reduceSub, reduceLeDiff, reduceReplicate]
    exact Fz.bool (by simp [plainT, c1])
  have f1 : (k == 0) = true := by simp [c1]
  simp only [f1, go_sem, ↓reduceIte, reduceCtorEq, reduceLT, reduceEqDiff, Nat.reduceBEq, reduceAdd, reduceMul, reduceSub, reduceLeDiff, reduceReplicate]
  by_cases c2 : n = nE
  case neg =>
    have f2 : (n.toList == (⟨#[]⟩ : ByteArray).toList) = false := by rw [bytes_eq]; exact decide_eq_false c2
    simp only [f2, go_sem, ↓reduceIte, reduceCtorEq, reduceLT, reduceEqDiff, Nat.reduceBEq, reduceAdd, reduceMul, reduceSub, reduceLeDiff, reduceReplicate]
    exact Fz.bool (by simp [plainT, c2])
  have f2 : (n.toList == (⟨#[]⟩ : ByteArray).toList) = true := by rw [bytes_eq]; exact decide_eq_true c2
  simp only [f2, hda, hL, go_sem, ↓reduceIte, reduceCtorEq, reduceLT, reduceEqDiff, Nat.reduceBEq, reduceAdd, reduceMul, reduceSub, reduceLeDiff, reduceReplicate]
  exact Fz.bool (by simp [plainT, c1, c2])
-- names of the fields of a case
def distinctF : List ByteArray → Bool
  | l => decide (∀ (i : Nat) (h : i < l.length), loB l[i] = true ∧ (l.take i).any (fun x => decide (x = l[i])) = false)
def atF (l : List ByteArray) (x : ByteArray) : Int := match l.reverse.findIdx? (fun y => decide (y = x)) with | some i => (l.length : Int) - 1 - i | none => -1
theorem strs_take (l : List ByteArray) (k : Nat) : (l.map fun n => [S n]).take k = (l.take k).map fun n => [S n] := by simp
theorem validFieldNames (l : List ByteArray) (hl : l.length ≤ maxLen) (hs : ∀ s ∈ l, ByteArray.size s ≤ maxLen) : Sp Tryz.prog 174 [strs l] (B (distinctF l && decide ((l.length : Int) ≤ 3))) := by
  have hl' := hl
  unfold maxLen at hl
  have hda : (l.map fun n => [S n]).length = l.length := by simp
  refine Sp.of_vc [] [.tmp 2] Tryz.func174 rfl (by kernel_rfl) Tryz.ntmps174 rfl (by simp) ?_
  simp only [go_sem, ↓reduceIte, reduceCtorEq, reduceLT, reduceEqDiff, Nat.reduceBEq, reduceAdd, reduceMul, reduceSub, reduceLeDiff, reduceReplicate, hda]
  refine loop_count 7 l.length (fun k => Fw.Inv 26 [(0, strs l), (5, strs l), (6, I l.length)] (∀ (i : Nat) (h : i < l.length), i < k → loB l[i] = true ∧ (l.take i).any (fun x => decide (x = l[i])) = false)) rfl ⟨rfl, by simp [strs, envOf, setE], by simp⟩ ?_
  rintro k ⟨env, H, n, nt, T⟩ hk h5 ⟨rfl, hfs, hp⟩
  simp only [List.forall_mem_cons, strs] at h5 hfs
  obtain ⟨e0, e1, e2, -⟩ := hfs
  simp only [h5, e0, e1, e2, hda, go_sem, ↓reduceIte, reduceCtorEq, reduceLT, reduceEqDiff, Nat.reduceBEq, reduceAdd, reduceMul, reduceSub, reduceLeDiff, reduceReplicate]
  refine condK_split (fun h => ?_) (fun h => ?_)
  · have hlt : k < l.length := by simpa using h
    have g0 : (l.map fun n => [S n])[k]? = some [S l[k]] := by simp [hlt]
    have hkl : ((k : Int) ≤ (l.length : Int)) = True := eq_true (by omega)
    have bad : ¬ (loB l[k] = true ∧ (l.take k).any (fun x => decide (x = l[k])) = false) → false = (distinctF l && decide ((l.length : Int) ≤ 3)) := fun hb => by
      have : distinctF l = false := by rw [distinctF, decide_eq_false_iff_not]; intro hh; exact hb (hh k hlt)
      rw [this]; rfl
    simp only [h, h5, e0, e1, e2, g0, go_sem, ↓reduceIte, reduceCtorEq, reduceLT, reduceEqDiff, Nat.reduceBEq, reduceAdd, reduceMul, reduceSub, reduceLeDiff, reduceReplicate]
    refine callK_intro _ (isLower l[k] (hs _ (List.getElem_mem hlt))) (by simp) ?_
    cases c1 : loB l[k]
    · simp only [go_sem, ↓reduceIte, reduceCtorEq, reduceLT, reduceEqDiff, Nat.reduceBEq, reduceAdd, reduceMul, reduceSub, reduceLeDiff, reduceReplicate]
      exact Fz.bool (bad (by simp [c1]))
    simp only [e0, hda, hkl, strs_take, nz, List.drop_zero, go_sem, ↓reduceIte, reduceCtorEq, reduceLT, reduceEqDiff, Nat.reduceBEq, reduceAdd, reduceMul, reduceSub, reduceLeDiff, reduceReplicate]
    refine callK_intro _ (containsStr (l.take k) l[k] (by simp; unfold maxLen; omega)) (by simp only [List.nil_append, List.append_nil, List.forall_mem_cons]; exact ⟨cl_strs _, cl_sc _, by simp⟩) ?_
    cases c2 : (l.take k).any fun x => decide (x = l[k])
    · simp only [h5, go_sem, ↓reduceIte, reduceCtorEq, reduceLT, reduceEqDiff, Nat.reduceBEq, reduceAdd, reduceMul, reduceSub, reduceLeDiff, reduceReplicate]
      refine nextC_mk (by simp [setE, wrap_succ k (by omega)]) hlt ⟨rfl, by simp [setE, e0, e1, e2, strs], fun i hi hik => ?_⟩
      by_cases hik' : i < k
      · exact hp i hi hik'
      · have : i = k := by omega
        subst this; exact ⟨c1, c2⟩
    · simp only [go_sem, ↓reduceIte, reduceCtorEq, reduceLT, reduceEqDiff, Nat.reduceBEq, reduceAdd, reduceMul, reduceSub, reduceLeDiff, reduceReplicate]
      exact Fz.bool (bad (by simp [c2]))
  · have hk' : k = l.length := by simp at h; omega
    simp only [h, e0, hda, go_sem, ↓reduceIte, reduceCtorEq, reduceLT, reduceEqDiff, Nat.reduceBEq, reduceAdd, reduceMul, reduceSub, reduceLeDiff, reduceReplicate]
    refine Fz.bool ?_
    have : distinctF l = true := by rw [distinctF, decide_eq_true_eq]; exact fun i hi => hp i hi (by omega)
    rw [this]; rfl
theorem l03At (l : List ByteArray) (v : ByteArray) (hl : l.length ≤ maxLen) : ∃ z : Int, Sp Tryz.prog 141 [strs l, S v] (I z) ∧ (decide (z ≥ 0) = l.any fun x => decide (x = v)) := by
  unfold maxLen at hl
  have hda : (l.map fun n => [S n]).length = l.length := by simp
  by_cases hex : ∃ i, ∃ h : i < l.length, l[i] = v ∧ ∀ j, (hj : j < l.length) → i < j → l[j] ≠ v
  · obtain ⟨i, hi, hiv, hlast⟩ := hex
    refine ⟨i, ?_, ?_⟩
    · have w0 : IntKind.i64.wrap ((l.length : Int) - 1) = ((l.length - 1 : Nat) : Int) := by
        have := Go.IntWalk.i64_in ((l.length : Int) - 1) (by omega)
        rw [this]; omega
      refine Sp.of_vc [] [.tmp 4] Tryz.func141 rfl (by kernel_rfl) Tryz.ntmps141 rfl (by simp) ?_
      simp only [go_sem, ↓reduceIte, reduceCtorEq, reduceLT, reduceEqDiff, Nat.reduceBEq, reduceAdd, reduceMul, reduceSub, reduceLeDiff, reduceReplicate, hda, w0]
      refine loop_meas (fun s => s.nt = 20 ∧ ∃ j : Nat, s.env 5 = I j ∧ s.env 0 = strs l ∧ s.env 1 = S v ∧ i ≤ j ∧ j < l.length) (fun s => match s.env 5 with | .sc (.int _ n) => n.toNat | _ => 0) ⟨rfl, l.length - 1, by simp [setE], by simp [setE, envOf, strs], by simp [setE, envOf], by omega, by omega⟩ ?_
      rintro ⟨env, H, n, nt, T⟩ ⟨rfl, j, e5, e0, e1, hij, hj⟩
      simp only [strs] at e5 e0 e1
      have hge : decide (((j : Nat) : Int) ≥ 0) = true := by simp
      have g0 : (l.map fun n => [S n])[j]? = some [S l[j]] := by simp [hj]
      simp only [e0, e1, e5, hge, g0, hda, go_sem, ↓reduceIte, reduceCtorEq, reduceLT, reduceEqDiff, Nat.reduceBEq, reduceAdd, reduceMul, reduceSub, reduceLeDiff, reduceReplicate]
      by_cases hc : l[j] = v
      · have f1 : (l[j].toList == v.toList) = true := by rw [bytes_eq]; simp [hc]
        simp only [f1, e5, go_sem, ↓reduceIte, reduceCtorEq, reduceLT, reduceEqDiff, Nat.reduceBEq, reduceAdd, reduceMul, reduceSub, reduceLeDiff, reduceReplicate]
        refine Fz.int ?_
        by_cases h : i = j
        · rw [h]
        · exact absurd hc (hlast j hj (by omega))
      · have f1 : (l[j].toList == v.toList) = false := by rw [bytes_eq]; simp [hc]
        have hne : i ≠ j := fun h => by subst h; exact hc hiv
        have w1 : IntKind.i64.wrap ((j : Int) - 1) = ((j - 1 : Nat) : Int) := by
          have := Go.IntWalk.i64_in ((j : Int) - 1) (by omega)
          rw [this]; omega
        simp only [f1, e5, w1, go_sem, ↓reduceIte, reduceCtorEq, reduceLT, reduceEqDiff, Nat.reduceBEq, reduceAdd, reduceMul, reduceSub, reduceLeDiff, reduceReplicate]
        exact ⟨⟨rfl, j - 1, by simp [setE], by simp [setE, e0, strs], by simp [setE, e1], by omega, by omega⟩, by simp [setE, e5]; omega⟩
    · have : (l.any fun x => decide (x = v)) = true := by rw [List.any_eq_true]; exact ⟨l[i], List.getElem_mem hi, by simp [hiv]⟩
      rw [this]; simp
  · have hno : ∀ j, (hj : j < l.length) → l[j] ≠ v := by
      intro j hj hv
      have key : ∀ m, ∀ j, (hj : j < l.length) → l.length - j ≤ m → l[j] = v → ∃ i, ∃ h : i < l.length, l[i] = v ∧ ∀ j, (hj : j < l.length) → i < j → l[j] ≠ v := by
        intro m
        induction m with
        | zero => intro j hj hm _; omega
        | succ m ih =>
          intro j hj hm hv
          by_cases hn : ∃ k, ∃ hk : k < l.length, j < k ∧ l[k] = v
          · obtain ⟨k, hk, hjk, hkv⟩ := hn
            exact ih k hk (by omega) hkv
          · exact ⟨j, hj, hv, fun k hk hjk hkv => hn ⟨k, hk, hjk, hkv⟩⟩
      exact hex (key _ j hj (Nat.le_refl _) hv)
    have hany : (l.any fun x => decide (x = v)) = false := by
      rw [List.any_eq_false]
      intro x hx
      obtain ⟨i, hi, rfl⟩ := List.getElem_of_mem hx
      simp [hno i hi]
    refine ⟨-1, ?_, by rw [hany]; rfl⟩
    have w0 : IntKind.i64.wrap ((l.length : Int) - 1) = (l.length : Int) - 1 := Go.IntWalk.i64_in _ (by omega)
    refine Sp.of_vc [] [.tmp 4] Tryz.func141 rfl (by kernel_rfl) Tryz.ntmps141 rfl (by simp) ?_
    simp only [go_sem, ↓reduceIte, reduceCtorEq, reduceLT, reduceEqDiff, Nat.reduceBEq, reduceAdd, reduceMul, reduceSub, reduceLeDiff, reduceReplicate, hda, w0]
    refine loop_meas (fun s => s.nt = 20 ∧ ∃ j : Nat, s.env 5 = I ((j : Int) - 1) ∧ s.env 0 = strs l ∧ s.env 1 = S v ∧ j ≤ l.length) (fun s => match s.env 5 with | .sc (.int _ n) => (n + 1).toNat | _ => 0) ⟨rfl, l.length, by simp [setE], by simp [setE, envOf, strs], by simp [setE, envOf], Nat.le_refl _⟩ ?_
    rintro ⟨env, H, n, nt, T⟩ ⟨rfl, j, e5, e0, e1, hj⟩
    simp only [strs] at e5 e0 e1
    simp only [e0, e1, e5, hda, go_sem, ↓reduceIte, reduceCtorEq, reduceLT, reduceEqDiff, Nat.reduceBEq, reduceAdd, reduceMul, reduceSub, reduceLeDiff, reduceReplicate]
    by_cases hj0 : j = 0
    · subst hj0
      have hge : decide ((((0 : Nat) : Int) - 1) ≥ 0) = false := by simp
      simp only [hge, go_sem, ↓reduceIte, reduceCtorEq, reduceLT, reduceEqDiff, Nat.reduceBEq, reduceAdd, reduceMul, reduceSub, reduceLeDiff, reduceReplicate]
      exact Fz.int rfl
    · have hge : decide (((j : Int) - 1) ≥ 0) = true := by simp; omega
      have hjl : j - 1 < l.length := by omega
      have hjz : ((j : Int) - 1).toNat = j - 1 := by omega
      have hj1 : (0 ≤ (j : Int) - 1) = True := eq_true (by omega)
      have g0 : (l.map fun n => [S n])[j - 1]? = some [S l[j - 1]] := by simp [hjl]
      have f1 : (l[j - 1].toList == v.toList) = false := by rw [bytes_eq]; simp [hno _ hjl]
      have w1 : IntKind.i64.wrap ((j : Int) - 1 - 1) = ((j - 1 : Nat) : Int) - 1 := by
        have := Go.IntWalk.i64_in ((j : Int) - 1 - 1) (by omega)
        rw [this]; omega
      simp only [hge, e0, e1, e5, hjz, hj1, g0, f1, w1, go_sem, ↓reduceIte, reduceCtorEq, reduceLT, reduceEqDiff, Nat.reduceBEq, reduceAdd, reduceMul, reduceSub, reduceLeDiff, reduceReplicate]
      exact ⟨⟨rfl, j - 1, by simp [setE], by simp [setE, e0, strs], by simp [setE, e1], by omega⟩, by simp [setE, e5]; omega⟩
theorem l03Distinct (l : List ByteArray) (hl : l.length ≤ maxLen) (hs : ∀ s ∈ l, ByteArray.size s ≤ maxLen) : Sp Tryz.prog 167 [strs l] (B (distinctF l)) := by
  have hl' := hl
  unfold maxLen at hl
  have hda : (l.map fun n => [S n]).length = l.length := by simp
  refine Sp.of_vc [] [.tmp 2] Tryz.func167 rfl (by kernel_rfl) Tryz.ntmps167 rfl (by simp) ?_
  simp only [go_sem, ↓reduceIte, reduceCtorEq, reduceLT, reduceEqDiff, Nat.reduceBEq, reduceAdd, reduceMul, reduceSub, reduceLeDiff, reduceReplicate, hda]
  refine loop_count 3 l.length (fun k => Fw.Inv 27 [(0, strs l)] (∀ (i : Nat) (h : i < l.length), i < k → loB l[i] = true ∧ (l.take i).any (fun x => decide (x = l[i])) = false)) rfl ⟨rfl, by simp [strs, envOf, setE], by simp⟩ ?_
  rintro k ⟨env, H, n, nt, T⟩ hk h5 ⟨rfl, hfs, hp⟩
  simp only [List.forall_mem_cons, strs] at h5 hfs
  obtain ⟨e0, -⟩ := hfs
  simp only [h5, e0, hda, go_sem, ↓reduceIte, reduceCtorEq, reduceLT, reduceEqDiff, Nat.reduceBEq, reduceAdd, reduceMul, reduceSub, reduceLeDiff, reduceReplicate]
  refine condK_split (fun h => ?_) (fun h => ?_)
  · have hlt : k < l.length := by simpa using h
    have g0 : (l.map fun n => [S n])[k]? = some [S l[k]] := by simp [hlt]
    have hkl : ((k : Int) ≤ (l.length : Int)) = True := eq_true (by omega)
    have bad : ¬ (loB l[k] = true ∧ (l.take k).any (fun x => decide (x = l[k])) = false) → false = distinctF l := fun hb => by
      symm; rw [distinctF, decide_eq_false_iff_not]; intro hh; exact hb (hh k hlt)
    simp only [h, h5, e0, g0, go_sem, ↓reduceIte, reduceCtorEq, reduceLT, reduceEqDiff, Nat.reduceBEq, reduceAdd, reduceMul, reduceSub, reduceLeDiff, reduceReplicate]
    refine drawK_intro mixed (by kernel_rfl) ?_
    refine callQ_intro _ (specIsLower l[k] (hs _ (List.getElem_mem hlt))) (by simp) rfl ?_
    cases c1 : loB l[k]
    · simp only [go_sem, ↓reduceIte, reduceCtorEq, reduceLT, reduceEqDiff, Nat.reduceBEq, reduceAdd, reduceMul, reduceSub, reduceLeDiff, reduceReplicate]
      exact Fz.bool (bad (by simp [c1]))
    simp only [e0, h5, hda, hkl, g0, strs_take, nz, List.drop_zero, go_sem, ↓reduceIte, reduceCtorEq, reduceLT, reduceEqDiff, Nat.reduceBEq, reduceAdd, reduceMul, reduceSub, reduceLeDiff, reduceReplicate]
    obtain ⟨z, hz, hz2⟩ := l03At (l.take k) l[k] (by simp; unfold maxLen; omega)
    refine callQ_intro _ hz (by simp only [List.nil_append, List.append_nil, List.forall_mem_cons]; exact ⟨cl_strs _, cl_sc _, by simp⟩) rfl ?_
    simp only [hz2, go_sem, ↓reduceIte, reduceCtorEq, reduceLT, reduceEqDiff, Nat.reduceBEq, reduceAdd, reduceMul, reduceSub, reduceLeDiff, reduceReplicate]
    cases c2 : (l.take k).any fun x => decide (x = l[k])
    · simp only [h5, go_sem, ↓reduceIte, reduceCtorEq, reduceLT, reduceEqDiff, Nat.reduceBEq, reduceAdd, reduceMul, reduceSub, reduceLeDiff, reduceReplicate]
      refine nextC_mk (by simp [setE, wrap_succ k (by omega)]) hlt ⟨rfl, by simp [setE, e0, strs], fun i hi hik => ?_⟩
      by_cases hik' : i < k
      · exact hp i hi hik'
      · have : i = k := by omega
        subst this; exact ⟨c1, c2⟩
    · simp only [go_sem, ↓reduceIte, reduceCtorEq, reduceLT, reduceEqDiff, Nat.reduceBEq, reduceAdd, reduceMul, reduceSub, reduceLeDiff, reduceReplicate]
      exact Fz.bool (bad (by simp [c2]))
  · have hk' : k = l.length := by simp at h; omega
    simp only [h, e0, hda, go_sem, ↓reduceIte, reduceCtorEq, reduceLT, reduceEqDiff, Nat.reduceBEq, reduceAdd, reduceMul, reduceSub, reduceLeDiff, reduceReplicate]
    refine Fz.bool ?_
    symm; rw [distinctF, decide_eq_true_eq]; exact fun i hi => hp i hi (by omega)
end Go.Proofs.YtcidmkcicagpaaaGreat
