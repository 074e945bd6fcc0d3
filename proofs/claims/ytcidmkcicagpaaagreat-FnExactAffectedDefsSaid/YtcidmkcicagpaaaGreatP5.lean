/-
  Contracts over data of the form of a node of a term, of the program and of the reference. No condition.
-/
import Derived.Test.YtcidmkcicagpaaaGreatP4
namespace Go.Proofs.YtcidmkcicagpaaaGreat
open Go.Fw
open Nat (reduceLT reduceEqDiff reduceAdd reduceMul reduceSub reduceLeDiff)
open List (reduceReplicate)
open Classical
set_option maxRecDepth 100000
set_option linter.unusedSimpArgs false
set_option linter.unusedVariables false
def kidsR (k : Int) : Int × Int :=
  if k = 1 ∨ k = 2 then (0, 0) else if k = 4 ∨ k = 6 ∨ k = 10 then (1, 1) else if k = 3 ∨ k = 5 ∨ k = 7 then (2, 2)
  else if k = 8 then (0, 3) else if k = 9 then (2, 5) else if k = 11 then (3, 3) else (0, -1)
def nameF (k : Int) (n : ByteArray) : Bool := if k = 1 ∨ k = 4 ∨ k = 7 then loB n else if k = 8 ∨ k = 10 then upB n else decide (n = nE)
noncomputable def typF (k : Int) (t : Typ) : Bool := if k = 4 then tyF t else plainT t
def namesF (k : Int) (ns : List ByteArray) : Bool := if k = 10 then decide ((ns.length : Int) ≤ 3) && distinctF ns else decide (ns.length = 0)
def numF (k v : Int) : Bool := if k = 2 then inR v (-2147483648) 2147483647 else if k = 3 then inR v 1 6 else decide (v = 0)
noncomputable def fieldsF : Term → Bool
  | .mk k v n ty ns _ => nameF k n && typF k ty && namesF k ns && numF k v
noncomputable def tmNode : Term → Bool
  | .mk k v n ty ns ks => inR ks.length (kidsR k).1 (kidsR k).2 && fieldsF (.mk k v n ty ns ks)
theorem kind_cases (k : Int) : k = 1 ∨ k = 2 ∨ k = 3 ∨ k = 4 ∨ k = 5 ∨ k = 6 ∨ k = 7 ∨ k = 8 ∨ k = 9 ∨ k = 10 ∨ k = 11 ∨ (k ≠ 1 ∧ k ≠ 2 ∧ k ≠ 3 ∧ k ≠ 4 ∧ k ≠ 5 ∧ k ≠ 6 ∧ k ≠ 7 ∧ k ≠ 8 ∧ k ≠ 9 ∧ k ≠ 10 ∧ k ≠ 11) := by omega
theorem isInt (n : Int) : Sp Tryz.prog 172 [I n] (B (inR n (-2147483648) 2147483647)) := by
  refine Sp.of_vc [] [.tmp 2] Tryz.func172 rfl (by kernel_rfl) Tryz.ntmps172 rfl (by simp) ?_
  simp only [go_sem, ↓reduceIte, reduceCtorEq, reduceLT, reduceEqDiff, Nat.reduceBEq, reduceAdd, reduceMul, reduceSub, reduceLeDiff, reduceReplicate]
  by_cases h1 : n ≥ -2147483648
  · simp only [decide_eq_true h1, go_sem, ↓reduceIte, reduceCtorEq, reduceLT, reduceEqDiff, Nat.reduceBEq, reduceAdd, reduceMul, reduceSub, reduceLeDiff, reduceReplicate]
    exact Fz.bool (by simp [inR]; omega)
  · simp only [decide_eq_false h1, go_sem, ↓reduceIte, reduceCtorEq, reduceLT, reduceEqDiff, Nat.reduceBEq, reduceAdd, reduceMul, reduceSub, reduceLeDiff, reduceReplicate]
    exact Fz.bool (by simp [inR]; omega)
theorem isOperator (n : Int) : Sp Tryz.prog 173 [I n] (B (inR n 1 6)) := by
  refine Sp.of_vc [] [.tmp 2] Tryz.func173 rfl (by kernel_rfl) Tryz.ntmps173 rfl (by simp) ?_
  simp only [go_sem, ↓reduceIte, reduceCtorEq, reduceLT, reduceEqDiff, Nat.reduceBEq, reduceAdd, reduceMul, reduceSub, reduceLeDiff, reduceReplicate]
  by_cases h1 : n ≥ 1
  · simp only [decide_eq_true h1, go_sem, ↓reduceIte, reduceCtorEq, reduceLT, reduceEqDiff, Nat.reduceBEq, reduceAdd, reduceMul, reduceSub, reduceLeDiff, reduceReplicate]
    exact Fz.bool (by simp [inR]; omega)
  · simp only [decide_eq_false h1, go_sem, ↓reduceIte, reduceCtorEq, reduceLT, reduceEqDiff, Nat.reduceBEq, reduceAdd, reduceMul, reduceSub, reduceLeDiff, reduceReplicate]
    exact Fz.bool (by simp [inR]; omega)
theorem l03Kids (k : Int) : Sp Tryz.prog 127 [I k] (.tp [I (kidsR k).1, I (kidsR k).2]) := by
  refine Sp.of_vc [] [.tmp 2, .tmp 3] Tryz.func127 rfl (by kernel_rfl) Tryz.ntmps127 rfl (by simp) ?_
  simp only [go_sem, ↓reduceIte, reduceCtorEq, reduceLT, reduceEqDiff, Nat.reduceBEq, reduceAdd, reduceMul, reduceSub, reduceLeDiff, reduceReplicate]
  rcases kind_cases k with rfl | rfl | rfl | rfl | rfl | rfl | rfl | rfl | rfl | rfl | rfl | ⟨h1, h2, h3, h4, h5, h6, h7, h8, h9, h10, h11⟩
  all_goals first
    | (simp only [go_sem, ↓reduceIte, reduceCtorEq, reduceLT, reduceEqDiff, Nat.reduceBEq, reduceAdd, reduceMul, reduceSub, reduceLeDiff, reduceReplicate, Int.reduceBEq]; exact Fz.same rfl (by simp))
    | (have f1 : (k == 1) = false := by simp [h1]
       have f2 : (k == 2) = false := by simp [h2]
       have f3 : (k == 3) = false := by simp [h3]
       have f4 : (k == 4) = false := by simp [h4]
       have f5 : (k == 5) = false := by simp [h5]
       have f6 : (k == 6) = false := by simp [h6]
       have f7 : (k == 7) = false := by simp [h7]
       have f8 : (k == 8) = false := by simp [h8]
       have f9 : (k == 9) = false := by simp [h9]
       have f10 : (k == 10) = false := by simp [h10]
       have f11 : (k == 11) = false := by simp [h11]
       simp only [f1, f2, f3, f4, f5, f6, f7, f8, f9, f10, f11, go_sem, ↓reduceIte, reduceCtorEq, reduceLT, reduceEqDiff, Nat.reduceBEq, reduceAdd, reduceMul, reduceSub, reduceLeDiff, reduceReplicate]
       exact Fz.same (by simp [kidsR, h1, h2, h3, h4, h5, h6, h7, h8, h9, h10, h11]) (by simp))
theorem fields_name {k v : Int} {n : ByteArray} {ty : Typ} {ns : List ByteArray} {ks : List Term} (h : nameF k n = false) : false = fieldsF (.mk k v n ty ns ks) := by simp [fieldsF, h]
theorem l03Fields (k v : Int) (n : ByteArray) (tk : Int) (tn : ByteArray) (tks : List Typ) (ns : List ByteArray) (ks : List Term) (hn : n.size ≤ maxLen) (hts : (Typ.mk tk tn tks).sz ≤ 1048576) (hto : (Typ.mk tk tn tks).ok) (hnl : ns.length ≤ maxLen) (hns : ∀ s ∈ ns, ByteArray.size s ≤ maxLen) :
    Sp Tryz.prog 128 [.cp (Term.ds (.mk k v n (.mk tk tn tks) ns ks))] (B (fieldsF (.mk k v n (.mk tk tn tks) ns ks))) := by
  have hds : Typ.ds (.mk tk tn tks) = [I tk, S tn, .sl 3 (Typ.dsL tks)] := by rw [Typ.ds]
  have hda : (ns.map fun s => [S s]).length = ns.length := by simp
  have sv := specValidType (.mk tk tn tks) hts hto
  have sn := l03NoType (.mk tk tn tks)
  rw [hds] at sv sn
  have tcl : ∀ d ∈ ([I tk, S tn, .sl 3 (Typ.dsL tks)] : List D), Cl d := by rw [← hds]; exact Typ.cl _
  refine Sp.of_vc [] [.tmp 2] Tryz.func128 rfl (by kernel_rfl) Tryz.ntmps128 rfl (by simp) ?_
  simp only [Term.ds, Typ.ds, List.cons_append, List.nil_append, go_sem, ↓reduceIte, reduceCtorEq, reduceLT, reduceEqDiff, Nat.reduceBEq, reduceAdd, reduceMul, reduceSub, reduceLeDiff, reduceReplicate]
  -- the names
  have hname : ∀ (Kc : St → Prop) (s : St) (X Y : St → Prop), True := fun _ _ _ _ => trivial
  rcases kind_cases k with rfl | rfl | rfl | rfl | rfl | rfl | rfl | rfl | rfl | rfl | rfl | ⟨h1, h2, h3, h4, h5, h6, h7, h8, h9, h10, h11⟩
  · simp only [hda, go_sem, ↓reduceIte, reduceCtorEq, reduceLT, reduceEqDiff, Nat.reduceBEq, reduceAdd, reduceMul, reduceSub, reduceLeDiff, reduceReplicate, Int.reduceBEq, Int.reduceBNe]
    refine callK_intro _ (specIsLower n hn) (by simp) ?_
    cases c1 : loB n
    · simp only [hda, go_sem, ↓reduceIte, reduceCtorEq, reduceLT, reduceEqDiff, Nat.reduceBEq, reduceAdd, reduceMul, reduceSub, reduceLeDiff, reduceReplicate, Int.reduceBEq, Int.reduceBNe]
      exact Fz.bool (by simp [fieldsF, nameF, c1])
    simp only [hda, go_sem, ↓reduceIte, reduceCtorEq, reduceLT, reduceEqDiff, Nat.reduceBEq, reduceAdd, reduceMul, reduceSub, reduceLeDiff, reduceReplicate, Int.reduceBEq, Int.reduceBNe]
    refine callK_intro _ sn (by simp only [List.nil_append, List.append_nil, List.forall_mem_cons]; exact ⟨Cl.ag' tcl, by simp⟩) ?_
    cases c2 : plainT (.mk tk tn tks)
    · simp only [hda, go_sem, ↓reduceIte, reduceCtorEq, reduceLT, reduceEqDiff, Nat.reduceBEq, reduceAdd, reduceMul, reduceSub, reduceLeDiff, reduceReplicate, Int.reduceBEq, Int.reduceBNe]
      exact Fz.bool (by simp [fieldsF, typF, c2])
    simp only [hda, hda, go_sem, ↓reduceIte, reduceCtorEq, reduceLT, reduceEqDiff, Nat.reduceBEq, reduceAdd, reduceMul, reduceSub, reduceLeDiff, reduceReplicate, Int.reduceBEq, Int.reduceBNe]
    by_cases c3 : (ns.length : Int) > 0
    · simp only [decide_eq_true c3, hda, go_sem, ↓reduceIte, reduceCtorEq, reduceLT, reduceEqDiff, Nat.reduceBEq, reduceAdd, reduceMul, reduceSub, reduceLeDiff, reduceReplicate]
      exact Fz.bool (by
        have : ns.length ≠ 0 := by omega
        simp [fieldsF, namesF, this])
    simp only [decide_eq_false c3, hda, go_sem, ↓reduceIte, reduceCtorEq, reduceLT, reduceEqDiff, Nat.reduceBEq, reduceAdd, reduceMul, reduceSub, reduceLeDiff, reduceReplicate]
    have c5 : ns.length = 0 := by omega
    simp only [hda, go_sem, ↓reduceIte, reduceCtorEq, reduceLT, reduceEqDiff, Nat.reduceBEq, reduceAdd, reduceMul, reduceSub, reduceLeDiff, reduceReplicate, Int.reduceBEq, Int.reduceBNe]
    exact Fz.bool (by simp [fieldsF, nameF, typF, numF, c1, c2, c5, namesF, int_beq])
  · simp only [hda, go_sem, ↓reduceIte, reduceCtorEq, reduceLT, reduceEqDiff, Nat.reduceBEq, reduceAdd, reduceMul, reduceSub, reduceLeDiff, reduceReplicate, Int.reduceBEq, Int.reduceBNe]
    by_cases c1 : n = nE
    case neg =>
      have g1 : (n.toList == (⟨#[]⟩ : ByteArray).toList) = false := by rw [bytes_eq]; exact decide_eq_false c1
      simp only [g1, hda, go_sem, ↓reduceIte, reduceCtorEq, reduceLT, reduceEqDiff, Nat.reduceBEq, reduceAdd, reduceMul, reduceSub, reduceLeDiff, reduceReplicate, Int.reduceBEq, Int.reduceBNe]
      exact Fz.bool (by simp [fieldsF, nameF, c1])
    have g1 : (n.toList == (⟨#[]⟩ : ByteArray).toList) = true := by rw [bytes_eq]; exact decide_eq_true c1
    simp only [g1, hda, go_sem, ↓reduceIte, reduceCtorEq, reduceLT, reduceEqDiff, Nat.reduceBEq, reduceAdd, reduceMul, reduceSub, reduceLeDiff, reduceReplicate, Int.reduceBEq, Int.reduceBNe]
    refine callK_intro _ sn (by simp only [List.nil_append, List.append_nil, List.forall_mem_cons]; exact ⟨Cl.ag' tcl, by simp⟩) ?_
    cases c2 : plainT (.mk tk tn tks)
    · simp only [hda, go_sem, ↓reduceIte, reduceCtorEq, reduceLT, reduceEqDiff, Nat.reduceBEq, reduceAdd, reduceMul, reduceSub, reduceLeDiff, reduceReplicate, Int.reduceBEq, Int.reduceBNe]
      exact Fz.bool (by simp [fieldsF, typF, c2])
    simp only [hda, hda, go_sem, ↓reduceIte, reduceCtorEq, reduceLT, reduceEqDiff, Nat.reduceBEq, reduceAdd, reduceMul, reduceSub, reduceLeDiff, reduceReplicate, Int.reduceBEq, Int.reduceBNe]
    by_cases c3 : (ns.length : Int) > 0
    · simp only [decide_eq_true c3, hda, go_sem, ↓reduceIte, reduceCtorEq, reduceLT, reduceEqDiff, Nat.reduceBEq, reduceAdd, reduceMul, reduceSub, reduceLeDiff, reduceReplicate]
      exact Fz.bool (by
        have : ns.length ≠ 0 := by omega
        simp [fieldsF, namesF, this])
    simp only [decide_eq_false c3, hda, go_sem, ↓reduceIte, reduceCtorEq, reduceLT, reduceEqDiff, Nat.reduceBEq, reduceAdd, reduceMul, reduceSub, reduceLeDiff, reduceReplicate]
    have c5 : ns.length = 0 := by omega
    simp only [hda, go_sem, ↓reduceIte, reduceCtorEq, reduceLT, reduceEqDiff, Nat.reduceBEq, reduceAdd, reduceMul, reduceSub, reduceLeDiff, reduceReplicate, Int.reduceBEq, Int.reduceBNe]
    refine callK_intro _ (l00In _ _ _) (by simp) ?_
    simp only [hda, go_sem, ↓reduceIte, reduceCtorEq, reduceLT, reduceEqDiff, Nat.reduceBEq, reduceAdd, reduceMul, reduceSub, reduceLeDiff, reduceReplicate]
    exact Fz.bool (by simp [fieldsF, nameF, typF, namesF, numF, c1, c2, c5])
  · simp only [hda, go_sem, ↓reduceIte, reduceCtorEq, reduceLT, reduceEqDiff, Nat.reduceBEq, reduceAdd, reduceMul, reduceSub, reduceLeDiff, reduceReplicate, Int.reduceBEq, Int.reduceBNe]
    by_cases c1 : n = nE
    case neg =>
      have g1 : (n.toList == (⟨#[]⟩ : ByteArray).toList) = false := by rw [bytes_eq]; exact decide_eq_false c1
      simp only [g1, hda, go_sem, ↓reduceIte, reduceCtorEq, reduceLT, reduceEqDiff, Nat.reduceBEq, reduceAdd, reduceMul, reduceSub, reduceLeDiff, reduceReplicate, Int.reduceBEq, Int.reduceBNe]
      exact Fz.bool (by simp [fieldsF, nameF, c1])
    have g1 : (n.toList == (⟨#[]⟩ : ByteArray).toList) = true := by rw [bytes_eq]; exact decide_eq_true c1
    simp only [g1, hda, go_sem, ↓reduceIte, reduceCtorEq, reduceLT, reduceEqDiff, Nat.reduceBEq, reduceAdd, reduceMul, reduceSub, reduceLeDiff, reduceReplicate, Int.reduceBEq, Int.reduceBNe]
    refine callK_intro _ sn (by simp only [List.nil_append, List.append_nil, List.forall_mem_cons]; exact ⟨Cl.ag' tcl, by simp⟩) ?_
    cases c2 : plainT (.mk tk tn tks)
    · simp only [hda, go_sem, ↓reduceIte, reduceCtorEq, reduceLT, reduceEqDiff, Nat.reduceBEq, reduceAdd, reduceMul, reduceSub, reduceLeDiff, reduceReplicate, Int.reduceBEq, Int.reduceBNe]
      exact Fz.bool (by simp [fieldsF, typF, c2])
    simp only [hda, hda, go_sem, ↓reduceIte, reduceCtorEq, reduceLT, reduceEqDiff, Nat.reduceBEq, reduceAdd, reduceMul, reduceSub, reduceLeDiff, reduceReplicate, Int.reduceBEq, Int.reduceBNe]
    by_cases c3 : (ns.length : Int) > 0
    · simp only [decide_eq_true c3, hda, go_sem, ↓reduceIte, reduceCtorEq, reduceLT, reduceEqDiff, Nat.reduceBEq, reduceAdd, reduceMul, reduceSub, reduceLeDiff, reduceReplicate]
      exact Fz.bool (by
        have : ns.length ≠ 0 := by omega
        simp [fieldsF, namesF, this])
    simp only [decide_eq_false c3, hda, go_sem, ↓reduceIte, reduceCtorEq, reduceLT, reduceEqDiff, Nat.reduceBEq, reduceAdd, reduceMul, reduceSub, reduceLeDiff, reduceReplicate]
    have c5 : ns.length = 0 := by omega
    simp only [hda, go_sem, ↓reduceIte, reduceCtorEq, reduceLT, reduceEqDiff, Nat.reduceBEq, reduceAdd, reduceMul, reduceSub, reduceLeDiff, reduceReplicate, Int.reduceBEq, Int.reduceBNe]
    refine callK_intro _ (l00In _ _ _) (by simp) ?_
    simp only [hda, go_sem, ↓reduceIte, reduceCtorEq, reduceLT, reduceEqDiff, Nat.reduceBEq, reduceAdd, reduceMul, reduceSub, reduceLeDiff, reduceReplicate]
    exact Fz.bool (by simp [fieldsF, nameF, typF, namesF, numF, c1, c2, c5])
  · simp only [hda, go_sem, ↓reduceIte, reduceCtorEq, reduceLT, reduceEqDiff, Nat.reduceBEq, reduceAdd, reduceMul, reduceSub, reduceLeDiff, reduceReplicate, Int.reduceBEq, Int.reduceBNe]
    refine callK_intro _ (specIsLower n hn) (by simp) ?_
    cases c1 : loB n
    · simp only [hda, go_sem, ↓reduceIte, reduceCtorEq, reduceLT, reduceEqDiff, Nat.reduceBEq, reduceAdd, reduceMul, reduceSub, reduceLeDiff, reduceReplicate, Int.reduceBEq, Int.reduceBNe]
      exact Fz.bool (by simp [fieldsF, nameF, c1])
    simp only [hda, go_sem, ↓reduceIte, reduceCtorEq, reduceLT, reduceEqDiff, Nat.reduceBEq, reduceAdd, reduceMul, reduceSub, reduceLeDiff, reduceReplicate, Int.reduceBEq, Int.reduceBNe]
    refine callK_intro _ sv (by simp only [List.nil_append, List.append_nil, List.forall_mem_cons]; exact ⟨Cl.ag' tcl, by simp⟩) ?_
    cases c2 : tyF (.mk tk tn tks)
    · simp only [hda, go_sem, ↓reduceIte, reduceCtorEq, reduceLT, reduceEqDiff, Nat.reduceBEq, reduceAdd, reduceMul, reduceSub, reduceLeDiff, reduceReplicate, Int.reduceBEq, Int.reduceBNe]
      exact Fz.bool (by simp [fieldsF, typF, c2])
    simp only [hda, hda, go_sem, ↓reduceIte, reduceCtorEq, reduceLT, reduceEqDiff, Nat.reduceBEq, reduceAdd, reduceMul, reduceSub, reduceLeDiff, reduceReplicate, Int.reduceBEq, Int.reduceBNe]
    by_cases c3 : (ns.length : Int) > 0
    · simp only [decide_eq_true c3, hda, go_sem, ↓reduceIte, reduceCtorEq, reduceLT, reduceEqDiff, Nat.reduceBEq, reduceAdd, reduceMul, reduceSub, reduceLeDiff, reduceReplicate]
      exact Fz.bool (by
        have : ns.length ≠ 0 := by omega
        simp [fieldsF, namesF, this])
    simp only [decide_eq_false c3, hda, go_sem, ↓reduceIte, reduceCtorEq, reduceLT, reduceEqDiff, Nat.reduceBEq, reduceAdd, reduceMul, reduceSub, reduceLeDiff, reduceReplicate]
    have c5 : ns.length = 0 := by omega
    simp only [hda, go_sem, ↓reduceIte, reduceCtorEq, reduceLT, reduceEqDiff, Nat.reduceBEq, reduceAdd, reduceMul, reduceSub, reduceLeDiff, reduceReplicate, Int.reduceBEq, Int.reduceBNe]
    exact Fz.bool (by simp [fieldsF, nameF, typF, numF, c1, c2, c5, namesF, int_beq])
  · simp only [hda, go_sem, ↓reduceIte, reduceCtorEq, reduceLT, reduceEqDiff, Nat.reduceBEq, reduceAdd, reduceMul, reduceSub, reduceLeDiff, reduceReplicate, Int.reduceBEq, Int.reduceBNe]
    by_cases c1 : n = nE
    case neg =>
      have g1 : (n.toList == (⟨#[]⟩ : ByteArray).toList) = false := by rw [bytes_eq]; exact decide_eq_false c1
      simp only [g1, hda, go_sem, ↓reduceIte, reduceCtorEq, reduceLT, reduceEqDiff, Nat.reduceBEq, reduceAdd, reduceMul, reduceSub, reduceLeDiff, reduceReplicate, Int.reduceBEq, Int.reduceBNe]
      exact Fz.bool (by simp [fieldsF, nameF, c1])
    have g1 : (n.toList == (⟨#[]⟩ : ByteArray).toList) = true := by rw [bytes_eq]; exact decide_eq_true c1
    simp only [g1, hda, go_sem, ↓reduceIte, reduceCtorEq, reduceLT, reduceEqDiff, Nat.reduceBEq, reduceAdd, reduceMul, reduceSub, reduceLeDiff, reduceReplicate, Int.reduceBEq, Int.reduceBNe]
    refine callK_intro _ sn (by simp only [List.nil_append, List.append_nil, List.forall_mem_cons]; exact ⟨Cl.ag' tcl, by simp⟩) ?_
    cases c2 : plainT (.mk tk tn tks)
    · simp only [hda, go_sem, ↓reduceIte, reduceCtorEq, reduceLT, reduceEqDiff, Nat.reduceBEq, reduceAdd, reduceMul, reduceSub, reduceLeDiff, reduceReplicate, Int.reduceBEq, Int.reduceBNe]
      exact Fz.bool (by simp [fieldsF, typF, c2])
    simp only [hda, hda, go_sem, ↓reduceIte, reduceCtorEq, reduceLT, reduceEqDiff, Nat.reduceBEq, reduceAdd, reduceMul, reduceSub, reduceLeDiff, reduceReplicate, Int.reduceBEq, Int.reduceBNe]
    by_cases c3 : (ns.length : Int) > 0
    · simp only [decide_eq_true c3, hda, go_sem, ↓reduceIte, reduceCtorEq, reduceLT, reduceEqDiff, Nat.reduceBEq, reduceAdd, reduceMul, reduceSub, reduceLeDiff, reduceReplicate]
      exact Fz.bool (by
        have : ns.length ≠ 0 := by omega
        simp [fieldsF, namesF, this])
    simp only [decide_eq_false c3, hda, go_sem, ↓reduceIte, reduceCtorEq, reduceLT, reduceEqDiff, Nat.reduceBEq, reduceAdd, reduceMul, reduceSub, reduceLeDiff, reduceReplicate]
    have c5 : ns.length = 0 := by omega
    simp only [hda, go_sem, ↓reduceIte, reduceCtorEq, reduceLT, reduceEqDiff, Nat.reduceBEq, reduceAdd, reduceMul, reduceSub, reduceLeDiff, reduceReplicate, Int.reduceBEq, Int.reduceBNe]
    exact Fz.bool (by simp [fieldsF, nameF, typF, numF, c1, c2, c5, namesF, int_beq])
  · simp only [hda, go_sem, ↓reduceIte, reduceCtorEq, reduceLT, reduceEqDiff, Nat.reduceBEq, reduceAdd, reduceMul, reduceSub, reduceLeDiff, reduceReplicate, Int.reduceBEq, Int.reduceBNe]
    by_cases c1 : n = nE
    case neg =>
      have g1 : (n.toList == (⟨#[]⟩ : ByteArray).toList) = false := by rw [bytes_eq]; exact decide_eq_false c1
      simp only [g1, hda, go_sem, ↓reduceIte, reduceCtorEq, reduceLT, reduceEqDiff, Nat.reduceBEq, reduceAdd, reduceMul, reduceSub, reduceLeDiff, reduceReplicate, Int.reduceBEq, Int.reduceBNe]
      exact Fz.bool (by simp [fieldsF, nameF, c1])
    have g1 : (n.toList == (⟨#[]⟩ : ByteArray).toList) = true := by rw [bytes_eq]; exact decide_eq_true c1
    simp only [g1, hda, go_sem, ↓reduceIte, reduceCtorEq, reduceLT, reduceEqDiff, Nat.reduceBEq, reduceAdd, reduceMul, reduceSub, reduceLeDiff, reduceReplicate, Int.reduceBEq, Int.reduceBNe]
    refine callK_intro _ sn (by simp only [List.nil_append, List.append_nil, List.forall_mem_cons]; exact ⟨Cl.ag' tcl, by simp⟩) ?_
    cases c2 : plainT (.mk tk tn tks)
    · simp only [hda, go_sem, ↓reduceIte, reduceCtorEq, reduceLT, reduceEqDiff, Nat.reduceBEq, reduceAdd, reduceMul, reduceSub, reduceLeDiff, reduceReplicate, Int.reduceBEq, Int.reduceBNe]
      exact Fz.bool (by simp [fieldsF, typF, c2])
    simp only [hda, hda, go_sem, ↓reduceIte, reduceCtorEq, reduceLT, reduceEqDiff, Nat.reduceBEq, reduceAdd, reduceMul, reduceSub, reduceLeDiff, reduceReplicate, Int.reduceBEq, Int.reduceBNe]
    by_cases c3 : (ns.length : Int) > 0
    · simp only [decide_eq_true c3, hda, go_sem, ↓reduceIte, reduceCtorEq, reduceLT, reduceEqDiff, Nat.reduceBEq, reduceAdd, reduceMul, reduceSub, reduceLeDiff, reduceReplicate]
      exact Fz.bool (by
        have : ns.length ≠ 0 := by omega
        simp [fieldsF, namesF, this])
    simp only [decide_eq_false c3, hda, go_sem, ↓reduceIte, reduceCtorEq, reduceLT, reduceEqDiff, Nat.reduceBEq, reduceAdd, reduceMul, reduceSub, reduceLeDiff, reduceReplicate]
    have c5 : ns.length = 0 := by omega
    simp only [hda, go_sem, ↓reduceIte, reduceCtorEq, reduceLT, reduceEqDiff, Nat.reduceBEq, reduceAdd, reduceMul, reduceSub, reduceLeDiff, reduceReplicate, Int.reduceBEq, Int.reduceBNe]
    exact Fz.bool (by simp [fieldsF, nameF, typF, numF, c1, c2, c5, namesF, int_beq])
  · simp only [hda, go_sem, ↓reduceIte, reduceCtorEq, reduceLT, reduceEqDiff, Nat.reduceBEq, reduceAdd, reduceMul, reduceSub, reduceLeDiff, reduceReplicate, Int.reduceBEq, Int.reduceBNe]
    refine callK_intro _ (specIsLower n hn) (by simp) ?_
    cases c1 : loB n
    · simp only [hda, go_sem, ↓reduceIte, reduceCtorEq, reduceLT, reduceEqDiff, Nat.reduceBEq, reduceAdd, reduceMul, reduceSub, reduceLeDiff, reduceReplicate, Int.reduceBEq, Int.reduceBNe]
      exact Fz.bool (by simp [fieldsF, nameF, c1])
    simp only [hda, go_sem, ↓reduceIte, reduceCtorEq, reduceLT, reduceEqDiff, Nat.reduceBEq, reduceAdd, reduceMul, reduceSub, reduceLeDiff, reduceReplicate, Int.reduceBEq, Int.reduceBNe]
    refine callK_intro _ sn (by simp only [List.nil_append, List.append_nil, List.forall_mem_cons]; exact ⟨Cl.ag' tcl, by simp⟩) ?_
    cases c2 : plainT (.mk tk tn tks)
    · simp only [hda, go_sem, ↓reduceIte, reduceCtorEq, reduceLT, reduceEqDiff, Nat.reduceBEq, reduceAdd, reduceMul, reduceSub, reduceLeDiff, reduceReplicate, Int.reduceBEq, Int.reduceBNe]
      exact Fz.bool (by simp [fieldsF, typF, c2])
    simp only [hda, hda, go_sem, ↓reduceIte, reduceCtorEq, reduceLT, reduceEqDiff, Nat.reduceBEq, reduceAdd, reduceMul, reduceSub, reduceLeDiff, reduceReplicate, Int.reduceBEq, Int.reduceBNe]
    by_cases c3 : (ns.length : Int) > 0
    · simp only [decide_eq_true c3, hda, go_sem, ↓reduceIte, reduceCtorEq, reduceLT, reduceEqDiff, Nat.reduceBEq, reduceAdd, reduceMul, reduceSub, reduceLeDiff, reduceReplicate]
      exact Fz.bool (by
        have : ns.length ≠ 0 := by omega
        simp [fieldsF, namesF, this])
    simp only [decide_eq_false c3, hda, go_sem, ↓reduceIte, reduceCtorEq, reduceLT, reduceEqDiff, Nat.reduceBEq, reduceAdd, reduceMul, reduceSub, reduceLeDiff, reduceReplicate]
    have c5 : ns.length = 0 := by omega
    simp only [hda, go_sem, ↓reduceIte, reduceCtorEq, reduceLT, reduceEqDiff, Nat.reduceBEq, reduceAdd, reduceMul, reduceSub, reduceLeDiff, reduceReplicate, Int.reduceBEq, Int.reduceBNe]
    exact Fz.bool (by simp [fieldsF, nameF, typF, numF, c1, c2, c5, namesF, int_beq])
  · simp only [hda, go_sem, ↓reduceIte, reduceCtorEq, reduceLT, reduceEqDiff, Nat.reduceBEq, reduceAdd, reduceMul, reduceSub, reduceLeDiff, reduceReplicate, Int.reduceBEq, Int.reduceBNe]
    refine callK_intro _ (specIsUpper n hn) (by simp) ?_
    cases c1 : upB n
    · simp only [hda, go_sem, ↓reduceIte, reduceCtorEq, reduceLT, reduceEqDiff, Nat.reduceBEq, reduceAdd, reduceMul, reduceSub, reduceLeDiff, reduceReplicate, Int.reduceBEq, Int.reduceBNe]
      exact Fz.bool (by simp [fieldsF, nameF, c1])
    simp only [hda, go_sem, ↓reduceIte, reduceCtorEq, reduceLT, reduceEqDiff, Nat.reduceBEq, reduceAdd, reduceMul, reduceSub, reduceLeDiff, reduceReplicate, Int.reduceBEq, Int.reduceBNe]
    refine callK_intro _ sn (by simp only [List.nil_append, List.append_nil, List.forall_mem_cons]; exact ⟨Cl.ag' tcl, by simp⟩) ?_
    cases c2 : plainT (.mk tk tn tks)
    · simp only [hda, go_sem, ↓reduceIte, reduceCtorEq, reduceLT, reduceEqDiff, Nat.reduceBEq, reduceAdd, reduceMul, reduceSub, reduceLeDiff, reduceReplicate, Int.reduceBEq, Int.reduceBNe]
      exact Fz.bool (by simp [fieldsF, typF, c2])
    simp only [hda, hda, go_sem, ↓reduceIte, reduceCtorEq, reduceLT, reduceEqDiff, Nat.reduceBEq, reduceAdd, reduceMul, reduceSub, reduceLeDiff, reduceReplicate, Int.reduceBEq, Int.reduceBNe]
    by_cases c3 : (ns.length : Int) > 0
    · simp only [decide_eq_true c3, hda, go_sem, ↓reduceIte, reduceCtorEq, reduceLT, reduceEqDiff, Nat.reduceBEq, reduceAdd, reduceMul, reduceSub, reduceLeDiff, reduceReplicate]
      exact Fz.bool (by
        have : ns.length ≠ 0 := by omega
        simp [fieldsF, namesF, this])
    simp only [decide_eq_false c3, hda, go_sem, ↓reduceIte, reduceCtorEq, reduceLT, reduceEqDiff, Nat.reduceBEq, reduceAdd, reduceMul, reduceSub, reduceLeDiff, reduceReplicate]
    have c5 : ns.length = 0 := by omega
    simp only [hda, go_sem, ↓reduceIte, reduceCtorEq, reduceLT, reduceEqDiff, Nat.reduceBEq, reduceAdd, reduceMul, reduceSub, reduceLeDiff, reduceReplicate, Int.reduceBEq, Int.reduceBNe]
    exact Fz.bool (by simp [fieldsF, nameF, typF, numF, c1, c2, c5, namesF, int_beq])
  · simp only [hda, go_sem, ↓reduceIte, reduceCtorEq, reduceLT, reduceEqDiff, Nat.reduceBEq, reduceAdd, reduceMul, reduceSub, reduceLeDiff, reduceReplicate, Int.reduceBEq, Int.reduceBNe]
    by_cases c1 : n = nE
    case neg =>
      have g1 : (n.toList == (⟨#[]⟩ : ByteArray).toList) = false := by rw [bytes_eq]; exact decide_eq_false c1
      simp only [g1, hda, go_sem, ↓reduceIte, reduceCtorEq, reduceLT, reduceEqDiff, Nat.reduceBEq, reduceAdd, reduceMul, reduceSub, reduceLeDiff, reduceReplicate, Int.reduceBEq, Int.reduceBNe]
      exact Fz.bool (by simp [fieldsF, nameF, c1])
    have g1 : (n.toList == (⟨#[]⟩ : ByteArray).toList) = true := by rw [bytes_eq]; exact decide_eq_true c1
    simp only [g1, hda, go_sem, ↓reduceIte, reduceCtorEq, reduceLT, reduceEqDiff, Nat.reduceBEq, reduceAdd, reduceMul, reduceSub, reduceLeDiff, reduceReplicate, Int.reduceBEq, Int.reduceBNe]
    refine callK_intro _ sn (by simp only [List.nil_append, List.append_nil, List.forall_mem_cons]; exact ⟨Cl.ag' tcl, by simp⟩) ?_
    cases c2 : plainT (.mk tk tn tks)
    · simp only [hda, go_sem, ↓reduceIte, reduceCtorEq, reduceLT, reduceEqDiff, Nat.reduceBEq, reduceAdd, reduceMul, reduceSub, reduceLeDiff, reduceReplicate, Int.reduceBEq, Int.reduceBNe]
      exact Fz.bool (by simp [fieldsF, typF, c2])
    simp only [hda, hda, go_sem, ↓reduceIte, reduceCtorEq, reduceLT, reduceEqDiff, Nat.reduceBEq, reduceAdd, reduceMul, reduceSub, reduceLeDiff, reduceReplicate, Int.reduceBEq, Int.reduceBNe]
    by_cases c3 : (ns.length : Int) > 0
    · simp only [decide_eq_true c3, hda, go_sem, ↓reduceIte, reduceCtorEq, reduceLT, reduceEqDiff, Nat.reduceBEq, reduceAdd, reduceMul, reduceSub, reduceLeDiff, reduceReplicate]
      exact Fz.bool (by
        have : ns.length ≠ 0 := by omega
        simp [fieldsF, namesF, this])
    simp only [decide_eq_false c3, hda, go_sem, ↓reduceIte, reduceCtorEq, reduceLT, reduceEqDiff, Nat.reduceBEq, reduceAdd, reduceMul, reduceSub, reduceLeDiff, reduceReplicate]
    have c5 : ns.length = 0 := by omega
    simp only [hda, go_sem, ↓reduceIte, reduceCtorEq, reduceLT, reduceEqDiff, Nat.reduceBEq, reduceAdd, reduceMul, reduceSub, reduceLeDiff, reduceReplicate, Int.reduceBEq, Int.reduceBNe]
    exact Fz.bool (by simp [fieldsF, nameF, typF, numF, c1, c2, c5, namesF, int_beq])
  · simp only [hda, go_sem, ↓reduceIte, reduceCtorEq, reduceLT, reduceEqDiff, Nat.reduceBEq, reduceAdd, reduceMul, reduceSub, reduceLeDiff, reduceReplicate, Int.reduceBEq, Int.reduceBNe]
    refine callK_intro _ (specIsUpper n hn) (by simp) ?_
    cases c1 : upB n
    · simp only [hda, go_sem, ↓reduceIte, reduceCtorEq, reduceLT, reduceEqDiff, Nat.reduceBEq, reduceAdd, reduceMul, reduceSub, reduceLeDiff, reduceReplicate, Int.reduceBEq, Int.reduceBNe]
      exact Fz.bool (by simp [fieldsF, nameF, c1])
    simp only [hda, go_sem, ↓reduceIte, reduceCtorEq, reduceLT, reduceEqDiff, Nat.reduceBEq, reduceAdd, reduceMul, reduceSub, reduceLeDiff, reduceReplicate, Int.reduceBEq, Int.reduceBNe]
    refine callK_intro _ sn (by simp only [List.nil_append, List.append_nil, List.forall_mem_cons]; exact ⟨Cl.ag' tcl, by simp⟩) ?_
    cases c2 : plainT (.mk tk tn tks)
    · simp only [hda, go_sem, ↓reduceIte, reduceCtorEq, reduceLT, reduceEqDiff, Nat.reduceBEq, reduceAdd, reduceMul, reduceSub, reduceLeDiff, reduceReplicate, Int.reduceBEq, Int.reduceBNe]
      exact Fz.bool (by simp [fieldsF, typF, c2])
    simp only [hda, hda, go_sem, ↓reduceIte, reduceCtorEq, reduceLT, reduceEqDiff, Nat.reduceBEq, reduceAdd, reduceMul, reduceSub, reduceLeDiff, reduceReplicate, Int.reduceBEq, Int.reduceBNe]
    by_cases c3 : (ns.length : Int) > 3
    · simp only [decide_eq_true c3, hda, go_sem, ↓reduceIte, reduceCtorEq, reduceLT, reduceEqDiff, Nat.reduceBEq, reduceAdd, reduceMul, reduceSub, reduceLeDiff, reduceReplicate]
      exact Fz.bool (by simp [fieldsF, namesF]; omega)
    simp only [decide_eq_false c3, hda, go_sem, ↓reduceIte, reduceCtorEq, reduceLT, reduceEqDiff, Nat.reduceBEq, reduceAdd, reduceMul, reduceSub, reduceLeDiff, reduceReplicate]
    refine callK_intro _ (l03Distinct ns hnl hns) (by simp) ?_
    cases c4 : distinctF ns
    · simp only [hda, go_sem, ↓reduceIte, reduceCtorEq, reduceLT, reduceEqDiff, Nat.reduceBEq, reduceAdd, reduceMul, reduceSub, reduceLeDiff, reduceReplicate]
      exact Fz.bool (by simp [fieldsF, namesF, c4])
    have c5 : namesF 10 ns = true := by simp [namesF, c4]; omega
    simp only [hda, go_sem, ↓reduceIte, reduceCtorEq, reduceLT, reduceEqDiff, Nat.reduceBEq, reduceAdd, reduceMul, reduceSub, reduceLeDiff, reduceReplicate, Int.reduceBEq, Int.reduceBNe]
    exact Fz.bool (by simp [fieldsF, nameF, typF, numF, c1, c2, c5, int_beq])
  · simp only [hda, go_sem, ↓reduceIte, reduceCtorEq, reduceLT, reduceEqDiff, Nat.reduceBEq, reduceAdd, reduceMul, reduceSub, reduceLeDiff, reduceReplicate, Int.reduceBEq, Int.reduceBNe]
    by_cases c1 : n = nE
    case neg =>
      have g1 : (n.toList == (⟨#[]⟩ : ByteArray).toList) = false := by rw [bytes_eq]; exact decide_eq_false c1
      simp only [g1, hda, go_sem, ↓reduceIte, reduceCtorEq, reduceLT, reduceEqDiff, Nat.reduceBEq, reduceAdd, reduceMul, reduceSub, reduceLeDiff, reduceReplicate, Int.reduceBEq, Int.reduceBNe]
      exact Fz.bool (by simp [fieldsF, nameF, c1])
    have g1 : (n.toList == (⟨#[]⟩ : ByteArray).toList) = true := by rw [bytes_eq]; exact decide_eq_true c1
    simp only [g1, hda, go_sem, ↓reduceIte, reduceCtorEq, reduceLT, reduceEqDiff, Nat.reduceBEq, reduceAdd, reduceMul, reduceSub, reduceLeDiff, reduceReplicate, Int.reduceBEq, Int.reduceBNe]
    refine callK_intro _ sn (by simp only [List.nil_append, List.append_nil, List.forall_mem_cons]; exact ⟨Cl.ag' tcl, by simp⟩) ?_
    cases c2 : plainT (.mk tk tn tks)
    · simp only [hda, go_sem, ↓reduceIte, reduceCtorEq, reduceLT, reduceEqDiff, Nat.reduceBEq, reduceAdd, reduceMul, reduceSub, reduceLeDiff, reduceReplicate, Int.reduceBEq, Int.reduceBNe]
      exact Fz.bool (by simp [fieldsF, typF, c2])
    simp only [hda, hda, go_sem, ↓reduceIte, reduceCtorEq, reduceLT, reduceEqDiff, Nat.reduceBEq, reduceAdd, reduceMul, reduceSub, reduceLeDiff, reduceReplicate, Int.reduceBEq, Int.reduceBNe]
    by_cases c3 : (ns.length : Int) > 0
    · simp only [decide_eq_true c3, hda, go_sem, ↓reduceIte, reduceCtorEq, reduceLT, reduceEqDiff, Nat.reduceBEq, reduceAdd, reduceMul, reduceSub, reduceLeDiff, reduceReplicate]
      exact Fz.bool (by
        have : ns.length ≠ 0 := by omega
        simp [fieldsF, namesF, this])
    simp only [decide_eq_false c3, hda, go_sem, ↓reduceIte, reduceCtorEq, reduceLT, reduceEqDiff, Nat.reduceBEq, reduceAdd, reduceMul, reduceSub, reduceLeDiff, reduceReplicate]
    have c5 : ns.length = 0 := by omega
    simp only [hda, go_sem, ↓reduceIte, reduceCtorEq, reduceLT, reduceEqDiff, Nat.reduceBEq, reduceAdd, reduceMul, reduceSub, reduceLeDiff, reduceReplicate, Int.reduceBEq, Int.reduceBNe]
    exact Fz.bool (by simp [fieldsF, nameF, typF, numF, c1, c2, c5, namesF, int_beq])
  · have b1 : (k == 1) = false := by simp [h1]
    have m1 : (k != 1) = true := by simp [h1]
    have b2 : (k == 2) = false := by simp [h2]
    have m2 : (k != 2) = true := by simp [h2]
    have b3 : (k == 3) = false := by simp [h3]
    have m3 : (k != 3) = true := by simp [h3]
    have b4 : (k == 4) = false := by simp [h4]
    have m4 : (k != 4) = true := by simp [h4]
    have b5 : (k == 5) = false := by simp [h5]
    have m5 : (k != 5) = true := by simp [h5]
    have b6 : (k == 6) = false := by simp [h6]
    have m6 : (k != 6) = true := by simp [h6]
    have b7 : (k == 7) = false := by simp [h7]
    have m7 : (k != 7) = true := by simp [h7]
    have b8 : (k == 8) = false := by simp [h8]
    have m8 : (k != 8) = true := by simp [h8]
    have b9 : (k == 9) = false := by simp [h9]
    have m9 : (k != 9) = true := by simp [h9]
    have b10 : (k == 10) = false := by simp [h10]
    have m10 : (k != 10) = true := by simp [h10]
    have b11 : (k == 11) = false := by simp [h11]
    have m11 : (k != 11) = true := by simp [h11]
    simp only [b1, m1, b2, m2, b3, m3, b4, m4, b5, m5, b6, m6, b7, m7, b8, m8, b9, m9, b10, m10, b11, m11, go_sem, ↓reduceIte, reduceCtorEq, reduceLT, reduceEqDiff, Nat.reduceBEq, reduceAdd, reduceMul, reduceSub, reduceLeDiff, reduceReplicate]
    by_cases c1 : n = nE
    case neg =>
      have g1 : (n.toList == (⟨#[]⟩ : ByteArray).toList) = false := by rw [bytes_eq]; exact decide_eq_false c1
      simp only [g1, b1, m1, b2, m2, b3, m3, b4, m4, b5, m5, b6, m6, b7, m7, b8, m8, b9, m9, b10, m10, b11, m11, go_sem, ↓reduceIte, reduceCtorEq, reduceLT, reduceEqDiff, Nat.reduceBEq, reduceAdd, reduceMul, reduceSub, reduceLeDiff, reduceReplicate, Int.reduceBEq, Int.reduceBNe]
      exact Fz.bool (by simp [fieldsF, nameF, c1, h1, h2, h3, h4, h5, h6, h7, h8, h9, h10, h11])
    have g1 : (n.toList == (⟨#[]⟩ : ByteArray).toList) = true := by rw [bytes_eq]; exact decide_eq_true c1
    simp only [g1, b1, m1, b2, m2, b3, m3, b4, m4, b5, m5, b6, m6, b7, m7, b8, m8, b9, m9, b10, m10, b11, m11, go_sem, ↓reduceIte, reduceCtorEq, reduceLT, reduceEqDiff, Nat.reduceBEq, reduceAdd, reduceMul, reduceSub, reduceLeDiff, reduceReplicate, Int.reduceBEq, Int.reduceBNe]
    refine callK_intro _ sn (by simp only [List.nil_append, List.append_nil, List.forall_mem_cons]; exact ⟨Cl.ag' tcl, by simp⟩) ?_
    cases c2 : plainT (.mk tk tn tks)
    · simp only [b1, m1, b2, m2, b3, m3, b4, m4, b5, m5, b6, m6, b7, m7, b8, m8, b9, m9, b10, m10, b11, m11, go_sem, ↓reduceIte, reduceCtorEq, reduceLT, reduceEqDiff, Nat.reduceBEq, reduceAdd, reduceMul, reduceSub, reduceLeDiff, reduceReplicate, Int.reduceBEq, Int.reduceBNe]
      exact Fz.bool (by simp [fieldsF, typF, c2, h1, h2, h3, h4, h5, h6, h7, h8, h9, h10, h11])
    simp only [b1, m1, b2, m2, b3, m3, b4, m4, b5, m5, b6, m6, b7, m7, b8, m8, b9, m9, b10, m10, b11, m11, hda, go_sem, ↓reduceIte, reduceCtorEq, reduceLT, reduceEqDiff, Nat.reduceBEq, reduceAdd, reduceMul, reduceSub, reduceLeDiff, reduceReplicate, Int.reduceBEq, Int.reduceBNe]
    by_cases c3 : (ns.length : Int) > 0
    · simp only [decide_eq_true c3, b1, m1, b2, m2, b3, m3, b4, m4, b5, m5, b6, m6, b7, m7, b8, m8, b9, m9, b10, m10, b11, m11, go_sem, ↓reduceIte, reduceCtorEq, reduceLT, reduceEqDiff, Nat.reduceBEq, reduceAdd, reduceMul, reduceSub, reduceLeDiff, reduceReplicate]
      exact Fz.bool (by
        have : ns.length ≠ 0 := by omega
        simp [fieldsF, namesF, this, h1, h2, h3, h4, h5, h6, h7, h8, h9, h10, h11])
    simp only [decide_eq_false c3, b1, m1, b2, m2, b3, m3, b4, m4, b5, m5, b6, m6, b7, m7, b8, m8, b9, m9, b10, m10, b11, m11, go_sem, ↓reduceIte, reduceCtorEq, reduceLT, reduceEqDiff, Nat.reduceBEq, reduceAdd, reduceMul, reduceSub, reduceLeDiff, reduceReplicate]
    have c5 : ns.length = 0 := by omega
    exact Fz.bool (by simp [fieldsF, nameF, typF, numF, c1, c2, c5, namesF, h1, h2, h3, h4, h5, h6, h7, h8, h9, h10, h11, int_beq])
theorem validNode (k v : Int) (n : ByteArray) (tk : Int) (tn : ByteArray) (tks : List Typ) (ns : List ByteArray) (ks : List Term) (hn : n.size ≤ maxLen) (hts : (Typ.mk tk tn tks).sz ≤ 1048576) (hto : (Typ.mk tk tn tks).ok) (hnl : ns.length ≤ maxLen) (hns : ∀ s ∈ ns, ByteArray.size s ≤ maxLen) :
    Sp Tryz.prog 139 [.ag (Term.ds (.mk k v n (.mk tk tn tks) ns ks))] (B (tmNode (.mk k v n (.mk tk tn tks) ns ks))) := by
  have hds : Typ.ds (.mk tk tn tks) = [I tk, S tn, .sl 3 (Typ.dsL tks)] := by rw [Typ.ds]
  have hda : (ns.map fun s => [S s]).length = ns.length := by simp
  have hdk : (Term.dsL ks).length = ks.length := Term.dsL_len ks
  have sv := validType (.mk tk tn tks) hts hto
  have sn := isTypeless (.mk tk tn tks) hto
  rw [hds] at sv sn
  have tcl : ∀ d ∈ ([I tk, S tn, .sl 3 (Typ.dsL tks)] : List D), Cl d := by rw [← hds]; exact Typ.cl _
  refine Sp.of_vc [] [.tmp 2] Tryz.func139 rfl (by kernel_rfl) Tryz.ntmps139 rfl (by simp) ?_
  simp only [Term.ds, Typ.ds, List.cons_append, List.nil_append, go_sem, ↓reduceIte, reduceCtorEq, reduceLT, reduceEqDiff, Nat.reduceBEq, reduceAdd, reduceMul, reduceSub, reduceLeDiff, reduceReplicate]
  refine callK_intro _ sn (by simp only [List.nil_append, List.append_nil, List.forall_mem_cons]; exact ⟨Cl.ag' tcl, by simp⟩) ?_
  simp only [go_sem, ↓reduceIte, reduceCtorEq, reduceLT, reduceEqDiff, Nat.reduceBEq, reduceAdd, reduceMul, reduceSub, reduceLeDiff, reduceReplicate]
  rcases kind_cases k with rfl | rfl | rfl | rfl | rfl | rfl | rfl | rfl | rfl | rfl | rfl | ⟨h1, h2, h3, h4, h5, h6, h7, h8, h9, h10, h11⟩
  · simp only [hda, hdk, go_sem, ↓reduceIte, reduceCtorEq, reduceLT, reduceEqDiff, Nat.reduceBEq, reduceAdd, reduceMul, reduceSub, reduceLeDiff, reduceReplicate, Int.reduceBEq, Int.reduceBNe]
    by_cases c3 : (ns.length : Int) > 0
    · simp only [decide_eq_true c3, hda, hdk, go_sem, ↓reduceIte, reduceCtorEq, reduceLT, reduceEqDiff, Nat.reduceBEq, reduceAdd, reduceMul, reduceSub, reduceLeDiff, reduceReplicate, Int.reduceBEq, Int.reduceBNe]
      exact Fz.bool (by
        have : ns.length ≠ 0 := by omega
        simp [tmNode, fieldsF, namesF, this])
    simp only [decide_eq_false c3, hda, hdk, go_sem, ↓reduceIte, reduceCtorEq, reduceLT, reduceEqDiff, Nat.reduceBEq, reduceAdd, reduceMul, reduceSub, reduceLeDiff, reduceReplicate, Int.reduceBEq, Int.reduceBNe]
    have c5 : ns.length = 0 := by omega
    cases c2 : plainT (.mk tk tn tks)
    · simp only [hda, hdk, go_sem, ↓reduceIte, reduceCtorEq, reduceLT, reduceEqDiff, Nat.reduceBEq, reduceAdd, reduceMul, reduceSub, reduceLeDiff, reduceReplicate, Int.reduceBEq, Int.reduceBNe]
      exact Fz.bool (by simp [tmNode, fieldsF, typF, c2])
    simp only [hda, hdk, go_sem, ↓reduceIte, reduceCtorEq, reduceLT, reduceEqDiff, Nat.reduceBEq, reduceAdd, reduceMul, reduceSub, reduceLeDiff, reduceReplicate, Int.reduceBEq, Int.reduceBNe]
    by_cases c6 : v = 0
    case neg =>
      have g6 : (v != 0) = true := bne_t c6
      simp only [g6, hda, hdk, go_sem, ↓reduceIte, reduceCtorEq, reduceLT, reduceEqDiff, Nat.reduceBEq, reduceAdd, reduceMul, reduceSub, reduceLeDiff, reduceReplicate, Int.reduceBEq, Int.reduceBNe]
      exact Fz.bool (by simp [tmNode, fieldsF, numF, c6])
    have g6 : (v != 0) = false := bne_f c6
    simp only [g6, hda, hdk, go_sem, ↓reduceIte, reduceCtorEq, reduceLT, reduceEqDiff, Nat.reduceBEq, reduceAdd, reduceMul, reduceSub, reduceLeDiff, reduceReplicate, Int.reduceBEq, Int.reduceBNe]
    refine drawK_intro mixed (by kernel_rfl) ?_
    refine callQ_intro _ (isLower n hn) (by simp) rfl ?_
    simp only [hda, hdk, go_sem, ↓reduceIte, reduceCtorEq, reduceLT, reduceEqDiff, Nat.reduceBEq, reduceAdd, reduceMul, reduceSub, reduceLeDiff, reduceReplicate, Int.reduceBEq, Int.reduceBNe]
    refine callQ_intro _ (isUpper n hn) (by simp) rfl ?_
    simp only [hda, hdk, go_sem, ↓reduceIte, reduceCtorEq, reduceLT, reduceEqDiff, Nat.reduceBEq, reduceAdd, reduceMul, reduceSub, reduceLeDiff, reduceReplicate, Int.reduceBEq, Int.reduceBNe]
    cases c1 : loB n
    · simp only [hda, hdk, go_sem, ↓reduceIte, reduceCtorEq, reduceLT, reduceEqDiff, Nat.reduceBEq, reduceAdd, reduceMul, reduceSub, reduceLeDiff, reduceReplicate, Int.reduceBEq, Int.reduceBNe]
      exact Fz.bool (by simp [tmNode, fieldsF, nameF, c1])
    simp only [hda, hdk, go_sem, ↓reduceIte, reduceCtorEq, reduceLT, reduceEqDiff, Nat.reduceBEq, reduceAdd, reduceMul, reduceSub, reduceLeDiff, reduceReplicate, Int.reduceBEq, Int.reduceBNe]
    have g7 : ((ks.length : Int) == 0) = decide ((ks.length : Int) ≥ 0 ∧ (ks.length : Int) ≤ 0) := by rw [int_beq, decide_eq_decide]; omega
    simp only [g7, hda, hdk, go_sem, ↓reduceIte, reduceCtorEq, reduceLT, reduceEqDiff, Nat.reduceBEq, reduceAdd, reduceMul, reduceSub, reduceLeDiff, reduceReplicate, Int.reduceBEq, Int.reduceBNe]
    exact Fz.bool (by simp [tmNode, fieldsF, nameF, typF, namesF, numF, kidsR, c1, c5, c2, c6, inR])
  · simp only [hda, hdk, go_sem, ↓reduceIte, reduceCtorEq, reduceLT, reduceEqDiff, Nat.reduceBEq, reduceAdd, reduceMul, reduceSub, reduceLeDiff, reduceReplicate, Int.reduceBEq, Int.reduceBNe]
    by_cases c3 : (ns.length : Int) > 0
    · simp only [decide_eq_true c3, hda, hdk, go_sem, ↓reduceIte, reduceCtorEq, reduceLT, reduceEqDiff, Nat.reduceBEq, reduceAdd, reduceMul, reduceSub, reduceLeDiff, reduceReplicate, Int.reduceBEq, Int.reduceBNe]
      exact Fz.bool (by
        have : ns.length ≠ 0 := by omega
        simp [tmNode, fieldsF, namesF, this])
    simp only [decide_eq_false c3, hda, hdk, go_sem, ↓reduceIte, reduceCtorEq, reduceLT, reduceEqDiff, Nat.reduceBEq, reduceAdd, reduceMul, reduceSub, reduceLeDiff, reduceReplicate, Int.reduceBEq, Int.reduceBNe]
    have c5 : ns.length = 0 := by omega
    cases c2 : plainT (.mk tk tn tks)
    · simp only [hda, hdk, go_sem, ↓reduceIte, reduceCtorEq, reduceLT, reduceEqDiff, Nat.reduceBEq, reduceAdd, reduceMul, reduceSub, reduceLeDiff, reduceReplicate, Int.reduceBEq, Int.reduceBNe]
      exact Fz.bool (by simp [tmNode, fieldsF, typF, c2])
    simp only [hda, hdk, go_sem, ↓reduceIte, reduceCtorEq, reduceLT, reduceEqDiff, Nat.reduceBEq, reduceAdd, reduceMul, reduceSub, reduceLeDiff, reduceReplicate, Int.reduceBEq, Int.reduceBNe]
    refine drawK_intro mixed (by kernel_rfl) ?_
    refine callQ_intro _ (isLower n hn) (by simp) rfl ?_
    simp only [hda, hdk, go_sem, ↓reduceIte, reduceCtorEq, reduceLT, reduceEqDiff, Nat.reduceBEq, reduceAdd, reduceMul, reduceSub, reduceLeDiff, reduceReplicate, Int.reduceBEq, Int.reduceBNe]
    refine callQ_intro _ (isUpper n hn) (by simp) rfl ?_
    simp only [hda, hdk, go_sem, ↓reduceIte, reduceCtorEq, reduceLT, reduceEqDiff, Nat.reduceBEq, reduceAdd, reduceMul, reduceSub, reduceLeDiff, reduceReplicate, Int.reduceBEq, Int.reduceBNe]
    by_cases c1 : n = nE
    case neg =>
      have g1 : (n.toList == (⟨#[]⟩ : ByteArray).toList) = false := by rw [bytes_eq]; exact decide_eq_false c1
      simp only [g1, hda, hdk, go_sem, ↓reduceIte, reduceCtorEq, reduceLT, reduceEqDiff, Nat.reduceBEq, reduceAdd, reduceMul, reduceSub, reduceLeDiff, reduceReplicate, Int.reduceBEq, Int.reduceBNe]
      exact Fz.bool (by simp [tmNode, fieldsF, nameF, c1])
    have g1 : (n.toList == (⟨#[]⟩ : ByteArray).toList) = true := by rw [bytes_eq]; exact decide_eq_true c1
    simp only [g1, hda, hdk, go_sem, ↓reduceIte, reduceCtorEq, reduceLT, reduceEqDiff, Nat.reduceBEq, reduceAdd, reduceMul, reduceSub, reduceLeDiff, reduceReplicate, Int.reduceBEq, Int.reduceBNe]
    by_cases c7 : (ks.length : Int) = 0
    case neg =>
      have g7 : ((ks.length : Int) == 0) = false := by rw [int_beq]; exact decide_eq_false c7
      simp only [g7, hda, hdk, go_sem, ↓reduceIte, reduceCtorEq, reduceLT, reduceEqDiff, Nat.reduceBEq, reduceAdd, reduceMul, reduceSub, reduceLeDiff, reduceReplicate, Int.reduceBEq, Int.reduceBNe]
      have c8 : inR (ks.length : Int) 0 0 = false := by rw [inR, decide_eq_false_iff_not]; omega
      exact Fz.bool (by simp [tmNode, fieldsF, nameF, typF, namesF, numF, kidsR, c1, c5, c2, c8])
    have g7 : ((ks.length : Int) == 0) = true := by rw [int_beq]; exact decide_eq_true c7
    have c8 : inR (ks.length : Int) 0 0 = true := by rw [inR, decide_eq_true_eq]; omega
    simp only [g7, hda, hdk, go_sem, ↓reduceIte, reduceCtorEq, reduceLT, reduceEqDiff, Nat.reduceBEq, reduceAdd, reduceMul, reduceSub, reduceLeDiff, reduceReplicate, Int.reduceBEq, Int.reduceBNe]
    refine callK_intro _ (isInt v) (by simp) ?_
    simp only [hda, hdk, go_sem, ↓reduceIte, reduceCtorEq, reduceLT, reduceEqDiff, Nat.reduceBEq, reduceAdd, reduceMul, reduceSub, reduceLeDiff, reduceReplicate, Int.reduceBEq, Int.reduceBNe]
    exact Fz.bool (by simp [tmNode, fieldsF, nameF, typF, namesF, numF, kidsR, c1, c5, c2, c8])
  · simp only [hda, hdk, go_sem, ↓reduceIte, reduceCtorEq, reduceLT, reduceEqDiff, Nat.reduceBEq, reduceAdd, reduceMul, reduceSub, reduceLeDiff, reduceReplicate, Int.reduceBEq, Int.reduceBNe]
    by_cases c3 : (ns.length : Int) > 0
    · simp only [decide_eq_true c3, hda, hdk, go_sem, ↓reduceIte, reduceCtorEq, reduceLT, reduceEqDiff, Nat.reduceBEq, reduceAdd, reduceMul, reduceSub, reduceLeDiff, reduceReplicate, Int.reduceBEq, Int.reduceBNe]
      exact Fz.bool (by
        have : ns.length ≠ 0 := by omega
        simp [tmNode, fieldsF, namesF, this])
    simp only [decide_eq_false c3, hda, hdk, go_sem, ↓reduceIte, reduceCtorEq, reduceLT, reduceEqDiff, Nat.reduceBEq, reduceAdd, reduceMul, reduceSub, reduceLeDiff, reduceReplicate, Int.reduceBEq, Int.reduceBNe]
    have c5 : ns.length = 0 := by omega
    cases c2 : plainT (.mk tk tn tks)
    · simp only [hda, hdk, go_sem, ↓reduceIte, reduceCtorEq, reduceLT, reduceEqDiff, Nat.reduceBEq, reduceAdd, reduceMul, reduceSub, reduceLeDiff, reduceReplicate, Int.reduceBEq, Int.reduceBNe]
      exact Fz.bool (by simp [tmNode, fieldsF, typF, c2])
    simp only [hda, hdk, go_sem, ↓reduceIte, reduceCtorEq, reduceLT, reduceEqDiff, Nat.reduceBEq, reduceAdd, reduceMul, reduceSub, reduceLeDiff, reduceReplicate, Int.reduceBEq, Int.reduceBNe]
    refine drawK_intro mixed (by kernel_rfl) ?_
    refine callQ_intro _ (isLower n hn) (by simp) rfl ?_
    simp only [hda, hdk, go_sem, ↓reduceIte, reduceCtorEq, reduceLT, reduceEqDiff, Nat.reduceBEq, reduceAdd, reduceMul, reduceSub, reduceLeDiff, reduceReplicate, Int.reduceBEq, Int.reduceBNe]
    refine callQ_intro _ (isUpper n hn) (by simp) rfl ?_
    simp only [hda, hdk, go_sem, ↓reduceIte, reduceCtorEq, reduceLT, reduceEqDiff, Nat.reduceBEq, reduceAdd, reduceMul, reduceSub, reduceLeDiff, reduceReplicate, Int.reduceBEq, Int.reduceBNe]
    by_cases c1 : n = nE
    case neg =>
      have g1 : (n.toList == (⟨#[]⟩ : ByteArray).toList) = false := by rw [bytes_eq]; exact decide_eq_false c1
      simp only [g1, hda, hdk, go_sem, ↓reduceIte, reduceCtorEq, reduceLT, reduceEqDiff, Nat.reduceBEq, reduceAdd, reduceMul, reduceSub, reduceLeDiff, reduceReplicate, Int.reduceBEq, Int.reduceBNe]
      exact Fz.bool (by simp [tmNode, fieldsF, nameF, c1])
    have g1 : (n.toList == (⟨#[]⟩ : ByteArray).toList) = true := by rw [bytes_eq]; exact decide_eq_true c1
    simp only [g1, hda, hdk, go_sem, ↓reduceIte, reduceCtorEq, reduceLT, reduceEqDiff, Nat.reduceBEq, reduceAdd, reduceMul, reduceSub, reduceLeDiff, reduceReplicate, Int.reduceBEq, Int.reduceBNe]
    by_cases c7 : (ks.length : Int) = 2
    case neg =>
      have g7 : ((ks.length : Int) == 2) = false := by rw [int_beq]; exact decide_eq_false c7
      simp only [g7, hda, hdk, go_sem, ↓reduceIte, reduceCtorEq, reduceLT, reduceEqDiff, Nat.reduceBEq, reduceAdd, reduceMul, reduceSub, reduceLeDiff, reduceReplicate, Int.reduceBEq, Int.reduceBNe]
      have c8 : inR (ks.length : Int) 2 2 = false := by rw [inR, decide_eq_false_iff_not]; omega
      exact Fz.bool (by simp [tmNode, fieldsF, nameF, typF, namesF, numF, kidsR, c1, c5, c2, c8])
    have g7 : ((ks.length : Int) == 2) = true := by rw [int_beq]; exact decide_eq_true c7
    have c8 : inR (ks.length : Int) 2 2 = true := by rw [inR, decide_eq_true_eq]; omega
    simp only [g7, hda, hdk, go_sem, ↓reduceIte, reduceCtorEq, reduceLT, reduceEqDiff, Nat.reduceBEq, reduceAdd, reduceMul, reduceSub, reduceLeDiff, reduceReplicate, Int.reduceBEq, Int.reduceBNe]
    refine callK_intro _ (isOperator v) (by simp) ?_
    simp only [hda, hdk, go_sem, ↓reduceIte, reduceCtorEq, reduceLT, reduceEqDiff, Nat.reduceBEq, reduceAdd, reduceMul, reduceSub, reduceLeDiff, reduceReplicate, Int.reduceBEq, Int.reduceBNe]
    exact Fz.bool (by simp [tmNode, fieldsF, nameF, typF, namesF, numF, kidsR, c1, c5, c2, c8])
  · simp only [hda, hdk, go_sem, ↓reduceIte, reduceCtorEq, reduceLT, reduceEqDiff, Nat.reduceBEq, reduceAdd, reduceMul, reduceSub, reduceLeDiff, reduceReplicate, Int.reduceBEq, Int.reduceBNe]
    by_cases c3 : (ns.length : Int) > 0
    · simp only [decide_eq_true c3, hda, hdk, go_sem, ↓reduceIte, reduceCtorEq, reduceLT, reduceEqDiff, Nat.reduceBEq, reduceAdd, reduceMul, reduceSub, reduceLeDiff, reduceReplicate, Int.reduceBEq, Int.reduceBNe]
      exact Fz.bool (by
        have : ns.length ≠ 0 := by omega
        simp [tmNode, fieldsF, namesF, this])
    simp only [decide_eq_false c3, hda, hdk, go_sem, ↓reduceIte, reduceCtorEq, reduceLT, reduceEqDiff, Nat.reduceBEq, reduceAdd, reduceMul, reduceSub, reduceLeDiff, reduceReplicate, Int.reduceBEq, Int.reduceBNe]
    have c5 : ns.length = 0 := by omega
    by_cases c6 : v = 0
    case neg =>
      have g6 : (v != 0) = true := bne_t c6
      simp only [g6, hda, hdk, go_sem, ↓reduceIte, reduceCtorEq, reduceLT, reduceEqDiff, Nat.reduceBEq, reduceAdd, reduceMul, reduceSub, reduceLeDiff, reduceReplicate, Int.reduceBEq, Int.reduceBNe]
      exact Fz.bool (by simp [tmNode, fieldsF, numF, c6])
    have g6 : (v != 0) = false := bne_f c6
    simp only [g6, hda, hdk, go_sem, ↓reduceIte, reduceCtorEq, reduceLT, reduceEqDiff, Nat.reduceBEq, reduceAdd, reduceMul, reduceSub, reduceLeDiff, reduceReplicate, Int.reduceBEq, Int.reduceBNe]
    refine drawK_intro mixed (by kernel_rfl) ?_
    refine callQ_intro _ (isLower n hn) (by simp) rfl ?_
    simp only [hda, hdk, go_sem, ↓reduceIte, reduceCtorEq, reduceLT, reduceEqDiff, Nat.reduceBEq, reduceAdd, reduceMul, reduceSub, reduceLeDiff, reduceReplicate, Int.reduceBEq, Int.reduceBNe]
    refine callQ_intro _ (isUpper n hn) (by simp) rfl ?_
    simp only [hda, hdk, go_sem, ↓reduceIte, reduceCtorEq, reduceLT, reduceEqDiff, Nat.reduceBEq, reduceAdd, reduceMul, reduceSub, reduceLeDiff, reduceReplicate, Int.reduceBEq, Int.reduceBNe]
    cases c1 : loB n
    · simp only [hda, hdk, go_sem, ↓reduceIte, reduceCtorEq, reduceLT, reduceEqDiff, Nat.reduceBEq, reduceAdd, reduceMul, reduceSub, reduceLeDiff, reduceReplicate, Int.reduceBEq, Int.reduceBNe]
      exact Fz.bool (by simp [tmNode, fieldsF, nameF, c1])
    simp only [hda, hdk, go_sem, ↓reduceIte, reduceCtorEq, reduceLT, reduceEqDiff, Nat.reduceBEq, reduceAdd, reduceMul, reduceSub, reduceLeDiff, reduceReplicate, Int.reduceBEq, Int.reduceBNe]
    by_cases c7 : (ks.length : Int) = 1
    case neg =>
      have g7 : ((ks.length : Int) == 1) = false := by rw [int_beq]; exact decide_eq_false c7
      simp only [g7, hda, hdk, go_sem, ↓reduceIte, reduceCtorEq, reduceLT, reduceEqDiff, Nat.reduceBEq, reduceAdd, reduceMul, reduceSub, reduceLeDiff, reduceReplicate, Int.reduceBEq, Int.reduceBNe]
      have c8 : inR (ks.length : Int) 1 1 = false := by rw [inR, decide_eq_false_iff_not]; omega
      exact Fz.bool (by simp [tmNode, fieldsF, nameF, typF, namesF, numF, kidsR, c1, c5, c6, c8])
    have g7 : ((ks.length : Int) == 1) = true := by rw [int_beq]; exact decide_eq_true c7
    have c8 : inR (ks.length : Int) 1 1 = true := by rw [inR, decide_eq_true_eq]; omega
    simp only [g7, hda, hdk, go_sem, ↓reduceIte, reduceCtorEq, reduceLT, reduceEqDiff, Nat.reduceBEq, reduceAdd, reduceMul, reduceSub, reduceLeDiff, reduceReplicate, Int.reduceBEq, Int.reduceBNe]
    refine callK_intro _ sv (by simp only [List.nil_append, List.append_nil, List.forall_mem_cons]; exact ⟨Cl.ag' tcl, by simp⟩) ?_
    simp only [hda, hdk, go_sem, ↓reduceIte, reduceCtorEq, reduceLT, reduceEqDiff, Nat.reduceBEq, reduceAdd, reduceMul, reduceSub, reduceLeDiff, reduceReplicate, Int.reduceBEq, Int.reduceBNe]
    exact Fz.bool (by simp [tmNode, fieldsF, nameF, typF, namesF, numF, kidsR, c1, c5, c6, c8])
  · simp only [hda, hdk, go_sem, ↓reduceIte, reduceCtorEq, reduceLT, reduceEqDiff, Nat.reduceBEq, reduceAdd, reduceMul, reduceSub, reduceLeDiff, reduceReplicate, Int.reduceBEq, Int.reduceBNe]
    by_cases c3 : (ns.length : Int) > 0
    · simp only [decide_eq_true c3, hda, hdk, go_sem, ↓reduceIte, reduceCtorEq, reduceLT, reduceEqDiff, Nat.reduceBEq, reduceAdd, reduceMul, reduceSub, reduceLeDiff, reduceReplicate, Int.reduceBEq, Int.reduceBNe]
      exact Fz.bool (by
        have : ns.length ≠ 0 := by omega
        simp [tmNode, fieldsF, namesF, this])
    simp only [decide_eq_false c3, hda, hdk, go_sem, ↓reduceIte, reduceCtorEq, reduceLT, reduceEqDiff, Nat.reduceBEq, reduceAdd, reduceMul, reduceSub, reduceLeDiff, reduceReplicate, Int.reduceBEq, Int.reduceBNe]
    have c5 : ns.length = 0 := by omega
    cases c2 : plainT (.mk tk tn tks)
    · simp only [hda, hdk, go_sem, ↓reduceIte, reduceCtorEq, reduceLT, reduceEqDiff, Nat.reduceBEq, reduceAdd, reduceMul, reduceSub, reduceLeDiff, reduceReplicate, Int.reduceBEq, Int.reduceBNe]
      exact Fz.bool (by simp [tmNode, fieldsF, typF, c2])
    simp only [hda, hdk, go_sem, ↓reduceIte, reduceCtorEq, reduceLT, reduceEqDiff, Nat.reduceBEq, reduceAdd, reduceMul, reduceSub, reduceLeDiff, reduceReplicate, Int.reduceBEq, Int.reduceBNe]
    by_cases c6 : v = 0
    case neg =>
      have g6 : (v != 0) = true := bne_t c6
      simp only [g6, hda, hdk, go_sem, ↓reduceIte, reduceCtorEq, reduceLT, reduceEqDiff, Nat.reduceBEq, reduceAdd, reduceMul, reduceSub, reduceLeDiff, reduceReplicate, Int.reduceBEq, Int.reduceBNe]
      exact Fz.bool (by simp [tmNode, fieldsF, numF, c6])
    have g6 : (v != 0) = false := bne_f c6
    simp only [g6, hda, hdk, go_sem, ↓reduceIte, reduceCtorEq, reduceLT, reduceEqDiff, Nat.reduceBEq, reduceAdd, reduceMul, reduceSub, reduceLeDiff, reduceReplicate, Int.reduceBEq, Int.reduceBNe]
    refine drawK_intro mixed (by kernel_rfl) ?_
    refine callQ_intro _ (isLower n hn) (by simp) rfl ?_
    simp only [hda, hdk, go_sem, ↓reduceIte, reduceCtorEq, reduceLT, reduceEqDiff, Nat.reduceBEq, reduceAdd, reduceMul, reduceSub, reduceLeDiff, reduceReplicate, Int.reduceBEq, Int.reduceBNe]
    refine callQ_intro _ (isUpper n hn) (by simp) rfl ?_
    simp only [hda, hdk, go_sem, ↓reduceIte, reduceCtorEq, reduceLT, reduceEqDiff, Nat.reduceBEq, reduceAdd, reduceMul, reduceSub, reduceLeDiff, reduceReplicate, Int.reduceBEq, Int.reduceBNe]
    by_cases c1 : n = nE
    case neg =>
      have g1 : (n.toList == (⟨#[]⟩ : ByteArray).toList) = false := by rw [bytes_eq]; exact decide_eq_false c1
      simp only [g1, hda, hdk, go_sem, ↓reduceIte, reduceCtorEq, reduceLT, reduceEqDiff, Nat.reduceBEq, reduceAdd, reduceMul, reduceSub, reduceLeDiff, reduceReplicate, Int.reduceBEq, Int.reduceBNe]
      exact Fz.bool (by simp [tmNode, fieldsF, nameF, c1])
    have g1 : (n.toList == (⟨#[]⟩ : ByteArray).toList) = true := by rw [bytes_eq]; exact decide_eq_true c1
    simp only [g1, hda, hdk, go_sem, ↓reduceIte, reduceCtorEq, reduceLT, reduceEqDiff, Nat.reduceBEq, reduceAdd, reduceMul, reduceSub, reduceLeDiff, reduceReplicate, Int.reduceBEq, Int.reduceBNe]
    have g7 : ((ks.length : Int) == 2) = decide ((ks.length : Int) ≥ 2 ∧ (ks.length : Int) ≤ 2) := by rw [int_beq, decide_eq_decide]; omega
    simp only [g7, hda, hdk, go_sem, ↓reduceIte, reduceCtorEq, reduceLT, reduceEqDiff, Nat.reduceBEq, reduceAdd, reduceMul, reduceSub, reduceLeDiff, reduceReplicate, Int.reduceBEq, Int.reduceBNe]
    exact Fz.bool (by simp [tmNode, fieldsF, nameF, typF, namesF, numF, kidsR, c1, c5, c2, c6, inR])
  · simp only [hda, hdk, go_sem, ↓reduceIte, reduceCtorEq, reduceLT, reduceEqDiff, Nat.reduceBEq, reduceAdd, reduceMul, reduceSub, reduceLeDiff, reduceReplicate, Int.reduceBEq, Int.reduceBNe]
    by_cases c3 : (ns.length : Int) > 0
    · simp only [decide_eq_true c3, hda, hdk, go_sem, ↓reduceIte, reduceCtorEq, reduceLT, reduceEqDiff, Nat.reduceBEq, reduceAdd, reduceMul, reduceSub, reduceLeDiff, reduceReplicate, Int.reduceBEq, Int.reduceBNe]
      exact Fz.bool (by
        have : ns.length ≠ 0 := by omega
        simp [tmNode, fieldsF, namesF, this])
    simp only [decide_eq_false c3, hda, hdk, go_sem, ↓reduceIte, reduceCtorEq, reduceLT, reduceEqDiff, Nat.reduceBEq, reduceAdd, reduceMul, reduceSub, reduceLeDiff, reduceReplicate, Int.reduceBEq, Int.reduceBNe]
    have c5 : ns.length = 0 := by omega
    cases c2 : plainT (.mk tk tn tks)
    · simp only [hda, hdk, go_sem, ↓reduceIte, reduceCtorEq, reduceLT, reduceEqDiff, Nat.reduceBEq, reduceAdd, reduceMul, reduceSub, reduceLeDiff, reduceReplicate, Int.reduceBEq, Int.reduceBNe]
      exact Fz.bool (by simp [tmNode, fieldsF, typF, c2])
    simp only [hda, hdk, go_sem, ↓reduceIte, reduceCtorEq, reduceLT, reduceEqDiff, Nat.reduceBEq, reduceAdd, reduceMul, reduceSub, reduceLeDiff, reduceReplicate, Int.reduceBEq, Int.reduceBNe]
    by_cases c6 : v = 0
    case neg =>
      have g6 : (v != 0) = true := bne_t c6
      simp only [g6, hda, hdk, go_sem, ↓reduceIte, reduceCtorEq, reduceLT, reduceEqDiff, Nat.reduceBEq, reduceAdd, reduceMul, reduceSub, reduceLeDiff, reduceReplicate, Int.reduceBEq, Int.reduceBNe]
      exact Fz.bool (by simp [tmNode, fieldsF, numF, c6])
    have g6 : (v != 0) = false := bne_f c6
    simp only [g6, hda, hdk, go_sem, ↓reduceIte, reduceCtorEq, reduceLT, reduceEqDiff, Nat.reduceBEq, reduceAdd, reduceMul, reduceSub, reduceLeDiff, reduceReplicate, Int.reduceBEq, Int.reduceBNe]
    refine drawK_intro mixed (by kernel_rfl) ?_
    refine callQ_intro _ (isLower n hn) (by simp) rfl ?_
    simp only [hda, hdk, go_sem, ↓reduceIte, reduceCtorEq, reduceLT, reduceEqDiff, Nat.reduceBEq, reduceAdd, reduceMul, reduceSub, reduceLeDiff, reduceReplicate, Int.reduceBEq, Int.reduceBNe]
    refine callQ_intro _ (isUpper n hn) (by simp) rfl ?_
    simp only [hda, hdk, go_sem, ↓reduceIte, reduceCtorEq, reduceLT, reduceEqDiff, Nat.reduceBEq, reduceAdd, reduceMul, reduceSub, reduceLeDiff, reduceReplicate, Int.reduceBEq, Int.reduceBNe]
    by_cases c1 : n = nE
    case neg =>
      have g1 : (n.toList == (⟨#[]⟩ : ByteArray).toList) = false := by rw [bytes_eq]; exact decide_eq_false c1
      simp only [g1, hda, hdk, go_sem, ↓reduceIte, reduceCtorEq, reduceLT, reduceEqDiff, Nat.reduceBEq, reduceAdd, reduceMul, reduceSub, reduceLeDiff, reduceReplicate, Int.reduceBEq, Int.reduceBNe]
      exact Fz.bool (by simp [tmNode, fieldsF, nameF, c1])
    have g1 : (n.toList == (⟨#[]⟩ : ByteArray).toList) = true := by rw [bytes_eq]; exact decide_eq_true c1
    simp only [g1, hda, hdk, go_sem, ↓reduceIte, reduceCtorEq, reduceLT, reduceEqDiff, Nat.reduceBEq, reduceAdd, reduceMul, reduceSub, reduceLeDiff, reduceReplicate, Int.reduceBEq, Int.reduceBNe]
    have g7 : ((ks.length : Int) == 1) = decide ((ks.length : Int) ≥ 1 ∧ (ks.length : Int) ≤ 1) := by rw [int_beq, decide_eq_decide]; omega
    simp only [g7, hda, hdk, go_sem, ↓reduceIte, reduceCtorEq, reduceLT, reduceEqDiff, Nat.reduceBEq, reduceAdd, reduceMul, reduceSub, reduceLeDiff, reduceReplicate, Int.reduceBEq, Int.reduceBNe]
    exact Fz.bool (by simp [tmNode, fieldsF, nameF, typF, namesF, numF, kidsR, c1, c5, c2, c6, inR])
  · simp only [hda, hdk, go_sem, ↓reduceIte, reduceCtorEq, reduceLT, reduceEqDiff, Nat.reduceBEq, reduceAdd, reduceMul, reduceSub, reduceLeDiff, reduceReplicate, Int.reduceBEq, Int.reduceBNe]
    by_cases c3 : (ns.length : Int) > 0
    · simp only [decide_eq_true c3, hda, hdk, go_sem, ↓reduceIte, reduceCtorEq, reduceLT, reduceEqDiff, Nat.reduceBEq, reduceAdd, reduceMul, reduceSub, reduceLeDiff, reduceReplicate, Int.reduceBEq, Int.reduceBNe]
      exact Fz.bool (by
        have : ns.length ≠ 0 := by omega
        simp [tmNode, fieldsF, namesF, this])
    simp only [decide_eq_false c3, hda, hdk, go_sem, ↓reduceIte, reduceCtorEq, reduceLT, reduceEqDiff, Nat.reduceBEq, reduceAdd, reduceMul, reduceSub, reduceLeDiff, reduceReplicate, Int.reduceBEq, Int.reduceBNe]
    have c5 : ns.length = 0 := by omega
    cases c2 : plainT (.mk tk tn tks)
    · simp only [hda, hdk, go_sem, ↓reduceIte, reduceCtorEq, reduceLT, reduceEqDiff, Nat.reduceBEq, reduceAdd, reduceMul, reduceSub, reduceLeDiff, reduceReplicate, Int.reduceBEq, Int.reduceBNe]
      exact Fz.bool (by simp [tmNode, fieldsF, typF, c2])
    simp only [hda, hdk, go_sem, ↓reduceIte, reduceCtorEq, reduceLT, reduceEqDiff, Nat.reduceBEq, reduceAdd, reduceMul, reduceSub, reduceLeDiff, reduceReplicate, Int.reduceBEq, Int.reduceBNe]
    by_cases c6 : v = 0
    case neg =>
      have g6 : (v != 0) = true := bne_t c6
      simp only [g6, hda, hdk, go_sem, ↓reduceIte, reduceCtorEq, reduceLT, reduceEqDiff, Nat.reduceBEq, reduceAdd, reduceMul, reduceSub, reduceLeDiff, reduceReplicate, Int.reduceBEq, Int.reduceBNe]
      exact Fz.bool (by simp [tmNode, fieldsF, numF, c6])
    have g6 : (v != 0) = false := bne_f c6
    simp only [g6, hda, hdk, go_sem, ↓reduceIte, reduceCtorEq, reduceLT, reduceEqDiff, Nat.reduceBEq, reduceAdd, reduceMul, reduceSub, reduceLeDiff, reduceReplicate, Int.reduceBEq, Int.reduceBNe]
    refine drawK_intro mixed (by kernel_rfl) ?_
    refine callQ_intro _ (isLower n hn) (by simp) rfl ?_
    simp only [hda, hdk, go_sem, ↓reduceIte, reduceCtorEq, reduceLT, reduceEqDiff, Nat.reduceBEq, reduceAdd, reduceMul, reduceSub, reduceLeDiff, reduceReplicate, Int.reduceBEq, Int.reduceBNe]
    refine callQ_intro _ (isUpper n hn) (by simp) rfl ?_
    simp only [hda, hdk, go_sem, ↓reduceIte, reduceCtorEq, reduceLT, reduceEqDiff, Nat.reduceBEq, reduceAdd, reduceMul, reduceSub, reduceLeDiff, reduceReplicate, Int.reduceBEq, Int.reduceBNe]
    cases c1 : loB n
    · simp only [hda, hdk, go_sem, ↓reduceIte, reduceCtorEq, reduceLT, reduceEqDiff, Nat.reduceBEq, reduceAdd, reduceMul, reduceSub, reduceLeDiff, reduceReplicate, Int.reduceBEq, Int.reduceBNe]
      exact Fz.bool (by simp [tmNode, fieldsF, nameF, c1])
    simp only [hda, hdk, go_sem, ↓reduceIte, reduceCtorEq, reduceLT, reduceEqDiff, Nat.reduceBEq, reduceAdd, reduceMul, reduceSub, reduceLeDiff, reduceReplicate, Int.reduceBEq, Int.reduceBNe]
    have g7 : ((ks.length : Int) == 2) = decide ((ks.length : Int) ≥ 2 ∧ (ks.length : Int) ≤ 2) := by rw [int_beq, decide_eq_decide]; omega
    simp only [g7, hda, hdk, go_sem, ↓reduceIte, reduceCtorEq, reduceLT, reduceEqDiff, Nat.reduceBEq, reduceAdd, reduceMul, reduceSub, reduceLeDiff, reduceReplicate, Int.reduceBEq, Int.reduceBNe]
    exact Fz.bool (by simp [tmNode, fieldsF, nameF, typF, namesF, numF, kidsR, c1, c5, c2, c6, inR])
  · simp only [hda, hdk, go_sem, ↓reduceIte, reduceCtorEq, reduceLT, reduceEqDiff, Nat.reduceBEq, reduceAdd, reduceMul, reduceSub, reduceLeDiff, reduceReplicate, Int.reduceBEq, Int.reduceBNe]
    by_cases c3 : (ns.length : Int) > 0
    · simp only [decide_eq_true c3, hda, hdk, go_sem, ↓reduceIte, reduceCtorEq, reduceLT, reduceEqDiff, Nat.reduceBEq, reduceAdd, reduceMul, reduceSub, reduceLeDiff, reduceReplicate, Int.reduceBEq, Int.reduceBNe]
      exact Fz.bool (by
        have : ns.length ≠ 0 := by omega
        simp [tmNode, fieldsF, namesF, this])
    simp only [decide_eq_false c3, hda, hdk, go_sem, ↓reduceIte, reduceCtorEq, reduceLT, reduceEqDiff, Nat.reduceBEq, reduceAdd, reduceMul, reduceSub, reduceLeDiff, reduceReplicate, Int.reduceBEq, Int.reduceBNe]
    have c5 : ns.length = 0 := by omega
    cases c2 : plainT (.mk tk tn tks)
    · simp only [hda, hdk, go_sem, ↓reduceIte, reduceCtorEq, reduceLT, reduceEqDiff, Nat.reduceBEq, reduceAdd, reduceMul, reduceSub, reduceLeDiff, reduceReplicate, Int.reduceBEq, Int.reduceBNe]
      exact Fz.bool (by simp [tmNode, fieldsF, typF, c2])
    simp only [hda, hdk, go_sem, ↓reduceIte, reduceCtorEq, reduceLT, reduceEqDiff, Nat.reduceBEq, reduceAdd, reduceMul, reduceSub, reduceLeDiff, reduceReplicate, Int.reduceBEq, Int.reduceBNe]
    by_cases c6 : v = 0
    case neg =>
      have g6 : (v != 0) = true := bne_t c6
      simp only [g6, hda, hdk, go_sem, ↓reduceIte, reduceCtorEq, reduceLT, reduceEqDiff, Nat.reduceBEq, reduceAdd, reduceMul, reduceSub, reduceLeDiff, reduceReplicate, Int.reduceBEq, Int.reduceBNe]
      exact Fz.bool (by simp [tmNode, fieldsF, numF, c6])
    have g6 : (v != 0) = false := bne_f c6
    simp only [g6, hda, hdk, go_sem, ↓reduceIte, reduceCtorEq, reduceLT, reduceEqDiff, Nat.reduceBEq, reduceAdd, reduceMul, reduceSub, reduceLeDiff, reduceReplicate, Int.reduceBEq, Int.reduceBNe]
    refine drawK_intro mixed (by kernel_rfl) ?_
    refine callQ_intro _ (isLower n hn) (by simp) rfl ?_
    simp only [hda, hdk, go_sem, ↓reduceIte, reduceCtorEq, reduceLT, reduceEqDiff, Nat.reduceBEq, reduceAdd, reduceMul, reduceSub, reduceLeDiff, reduceReplicate, Int.reduceBEq, Int.reduceBNe]
    refine callQ_intro _ (isUpper n hn) (by simp) rfl ?_
    simp only [hda, hdk, go_sem, ↓reduceIte, reduceCtorEq, reduceLT, reduceEqDiff, Nat.reduceBEq, reduceAdd, reduceMul, reduceSub, reduceLeDiff, reduceReplicate, Int.reduceBEq, Int.reduceBNe]
    cases c1 : upB n
    · simp only [hda, hdk, go_sem, ↓reduceIte, reduceCtorEq, reduceLT, reduceEqDiff, Nat.reduceBEq, reduceAdd, reduceMul, reduceSub, reduceLeDiff, reduceReplicate, Int.reduceBEq, Int.reduceBNe]
      exact Fz.bool (by simp [tmNode, fieldsF, nameF, c1])
    simp only [hda, hdk, go_sem, ↓reduceIte, reduceCtorEq, reduceLT, reduceEqDiff, Nat.reduceBEq, reduceAdd, reduceMul, reduceSub, reduceLeDiff, reduceReplicate, Int.reduceBEq, Int.reduceBNe]
    exact Fz.bool (by simp [tmNode, fieldsF, nameF, typF, namesF, numF, kidsR, c1, c5, c2, c6, inR])
  · simp only [hda, hdk, go_sem, ↓reduceIte, reduceCtorEq, reduceLT, reduceEqDiff, Nat.reduceBEq, reduceAdd, reduceMul, reduceSub, reduceLeDiff, reduceReplicate, Int.reduceBEq, Int.reduceBNe]
    by_cases c3 : (ns.length : Int) > 0
    · simp only [decide_eq_true c3, hda, hdk, go_sem, ↓reduceIte, reduceCtorEq, reduceLT, reduceEqDiff, Nat.reduceBEq, reduceAdd, reduceMul, reduceSub, reduceLeDiff, reduceReplicate, Int.reduceBEq, Int.reduceBNe]
      exact Fz.bool (by
        have : ns.length ≠ 0 := by omega
        simp [tmNode, fieldsF, namesF, this])
    simp only [decide_eq_false c3, hda, hdk, go_sem, ↓reduceIte, reduceCtorEq, reduceLT, reduceEqDiff, Nat.reduceBEq, reduceAdd, reduceMul, reduceSub, reduceLeDiff, reduceReplicate, Int.reduceBEq, Int.reduceBNe]
    have c5 : ns.length = 0 := by omega
    cases c2 : plainT (.mk tk tn tks)
    · simp only [hda, hdk, go_sem, ↓reduceIte, reduceCtorEq, reduceLT, reduceEqDiff, Nat.reduceBEq, reduceAdd, reduceMul, reduceSub, reduceLeDiff, reduceReplicate, Int.reduceBEq, Int.reduceBNe]
      exact Fz.bool (by simp [tmNode, fieldsF, typF, c2])
    simp only [hda, hdk, go_sem, ↓reduceIte, reduceCtorEq, reduceLT, reduceEqDiff, Nat.reduceBEq, reduceAdd, reduceMul, reduceSub, reduceLeDiff, reduceReplicate, Int.reduceBEq, Int.reduceBNe]
    by_cases c6 : v = 0
    case neg =>
      have g6 : (v != 0) = true := bne_t c6
      simp only [g6, hda, hdk, go_sem, ↓reduceIte, reduceCtorEq, reduceLT, reduceEqDiff, Nat.reduceBEq, reduceAdd, reduceMul, reduceSub, reduceLeDiff, reduceReplicate, Int.reduceBEq, Int.reduceBNe]
      exact Fz.bool (by simp [tmNode, fieldsF, numF, c6])
    have g6 : (v != 0) = false := bne_f c6
    simp only [g6, hda, hdk, go_sem, ↓reduceIte, reduceCtorEq, reduceLT, reduceEqDiff, Nat.reduceBEq, reduceAdd, reduceMul, reduceSub, reduceLeDiff, reduceReplicate, Int.reduceBEq, Int.reduceBNe]
    refine drawK_intro mixed (by kernel_rfl) ?_
    refine callQ_intro _ (isLower n hn) (by simp) rfl ?_
    simp only [hda, hdk, go_sem, ↓reduceIte, reduceCtorEq, reduceLT, reduceEqDiff, Nat.reduceBEq, reduceAdd, reduceMul, reduceSub, reduceLeDiff, reduceReplicate, Int.reduceBEq, Int.reduceBNe]
    refine callQ_intro _ (isUpper n hn) (by simp) rfl ?_
    simp only [hda, hdk, go_sem, ↓reduceIte, reduceCtorEq, reduceLT, reduceEqDiff, Nat.reduceBEq, reduceAdd, reduceMul, reduceSub, reduceLeDiff, reduceReplicate, Int.reduceBEq, Int.reduceBNe]
    by_cases c1 : n = nE
    case neg =>
      have g1 : (n.toList == (⟨#[]⟩ : ByteArray).toList) = false := by rw [bytes_eq]; exact decide_eq_false c1
      simp only [g1, hda, hdk, go_sem, ↓reduceIte, reduceCtorEq, reduceLT, reduceEqDiff, Nat.reduceBEq, reduceAdd, reduceMul, reduceSub, reduceLeDiff, reduceReplicate, Int.reduceBEq, Int.reduceBNe]
      exact Fz.bool (by simp [tmNode, fieldsF, nameF, c1])
    have g1 : (n.toList == (⟨#[]⟩ : ByteArray).toList) = true := by rw [bytes_eq]; exact decide_eq_true c1
    simp only [g1, hda, hdk, go_sem, ↓reduceIte, reduceCtorEq, reduceLT, reduceEqDiff, Nat.reduceBEq, reduceAdd, reduceMul, reduceSub, reduceLeDiff, reduceReplicate, Int.reduceBEq, Int.reduceBNe]
    by_cases c7 : (ks.length : Int) ≥ 2
    case neg =>
      simp only [decide_eq_false c7, hda, hdk, go_sem, ↓reduceIte, reduceCtorEq, reduceLT, reduceEqDiff, Nat.reduceBEq, reduceAdd, reduceMul, reduceSub, reduceLeDiff, reduceReplicate, Int.reduceBEq, Int.reduceBNe]
      exact Fz.bool (by simp [tmNode, fieldsF, nameF, typF, namesF, numF, kidsR, c1, c5, c2, c6, inR]; omega)
    simp only [decide_eq_true c7, hda, hdk, go_sem, ↓reduceIte, reduceCtorEq, reduceLT, reduceEqDiff, Nat.reduceBEq, reduceAdd, reduceMul, reduceSub, reduceLeDiff, reduceReplicate, Int.reduceBEq, Int.reduceBNe]
    exact Fz.bool (by simp [tmNode, fieldsF, nameF, typF, namesF, numF, kidsR, c1, c5, c2, c6, inR]; omega)
  · simp only [hda, hdk, go_sem, ↓reduceIte, reduceCtorEq, reduceLT, reduceEqDiff, Nat.reduceBEq, reduceAdd, reduceMul, reduceSub, reduceLeDiff, reduceReplicate, Int.reduceBEq, Int.reduceBNe]
    cases c2 : plainT (.mk tk tn tks)
    · simp only [hda, hdk, go_sem, ↓reduceIte, reduceCtorEq, reduceLT, reduceEqDiff, Nat.reduceBEq, reduceAdd, reduceMul, reduceSub, reduceLeDiff, reduceReplicate, Int.reduceBEq, Int.reduceBNe]
      exact Fz.bool (by simp [tmNode, fieldsF, typF, c2])
    simp only [hda, hdk, go_sem, ↓reduceIte, reduceCtorEq, reduceLT, reduceEqDiff, Nat.reduceBEq, reduceAdd, reduceMul, reduceSub, reduceLeDiff, reduceReplicate, Int.reduceBEq, Int.reduceBNe]
    by_cases c6 : v = 0
    case neg =>
      have g6 : (v != 0) = true := bne_t c6
      simp only [g6, hda, hdk, go_sem, ↓reduceIte, reduceCtorEq, reduceLT, reduceEqDiff, Nat.reduceBEq, reduceAdd, reduceMul, reduceSub, reduceLeDiff, reduceReplicate, Int.reduceBEq, Int.reduceBNe]
      exact Fz.bool (by simp [tmNode, fieldsF, numF, c6])
    have g6 : (v != 0) = false := bne_f c6
    simp only [g6, hda, hdk, go_sem, ↓reduceIte, reduceCtorEq, reduceLT, reduceEqDiff, Nat.reduceBEq, reduceAdd, reduceMul, reduceSub, reduceLeDiff, reduceReplicate, Int.reduceBEq, Int.reduceBNe]
    refine drawK_intro mixed (by kernel_rfl) ?_
    refine callQ_intro _ (isLower n hn) (by simp) rfl ?_
    simp only [hda, hdk, go_sem, ↓reduceIte, reduceCtorEq, reduceLT, reduceEqDiff, Nat.reduceBEq, reduceAdd, reduceMul, reduceSub, reduceLeDiff, reduceReplicate, Int.reduceBEq, Int.reduceBNe]
    refine callQ_intro _ (isUpper n hn) (by simp) rfl ?_
    simp only [hda, hdk, go_sem, ↓reduceIte, reduceCtorEq, reduceLT, reduceEqDiff, Nat.reduceBEq, reduceAdd, reduceMul, reduceSub, reduceLeDiff, reduceReplicate, Int.reduceBEq, Int.reduceBNe]
    cases c1 : upB n
    · simp only [hda, hdk, go_sem, ↓reduceIte, reduceCtorEq, reduceLT, reduceEqDiff, Nat.reduceBEq, reduceAdd, reduceMul, reduceSub, reduceLeDiff, reduceReplicate, Int.reduceBEq, Int.reduceBNe]
      exact Fz.bool (by simp [tmNode, fieldsF, nameF, c1])
    simp only [hda, hdk, go_sem, ↓reduceIte, reduceCtorEq, reduceLT, reduceEqDiff, Nat.reduceBEq, reduceAdd, reduceMul, reduceSub, reduceLeDiff, reduceReplicate, Int.reduceBEq, Int.reduceBNe]
    by_cases c7 : (ks.length : Int) = 1
    case neg =>
      have g7 : ((ks.length : Int) == 1) = false := by rw [int_beq]; exact decide_eq_false c7
      simp only [g7, hda, hdk, go_sem, ↓reduceIte, reduceCtorEq, reduceLT, reduceEqDiff, Nat.reduceBEq, reduceAdd, reduceMul, reduceSub, reduceLeDiff, reduceReplicate, Int.reduceBEq, Int.reduceBNe]
      have c8 : inR (ks.length : Int) 1 1 = false := by rw [inR, decide_eq_false_iff_not]; omega
      exact Fz.bool (by simp [tmNode, fieldsF, nameF, typF, namesF, numF, kidsR, c1, c2, c6, c8])
    have g7 : ((ks.length : Int) == 1) = true := by rw [int_beq]; exact decide_eq_true c7
    have c8 : inR (ks.length : Int) 1 1 = true := by rw [inR, decide_eq_true_eq]; omega
    simp only [g7, hda, hdk, go_sem, ↓reduceIte, reduceCtorEq, reduceLT, reduceEqDiff, Nat.reduceBEq, reduceAdd, reduceMul, reduceSub, reduceLeDiff, reduceReplicate, Int.reduceBEq, Int.reduceBNe]
    refine callK_intro _ (validFieldNames ns hnl hns) (by simp) ?_
    simp only [hda, hdk, go_sem, ↓reduceIte, reduceCtorEq, reduceLT, reduceEqDiff, Nat.reduceBEq, reduceAdd, reduceMul, reduceSub, reduceLeDiff, reduceReplicate, Int.reduceBEq, Int.reduceBNe]
    exact Fz.bool (by simp [tmNode, fieldsF, nameF, typF, namesF, numF, kidsR, c1, c2, c6, c8, Bool.and_comm])
  · simp only [hda, hdk, go_sem, ↓reduceIte, reduceCtorEq, reduceLT, reduceEqDiff, Nat.reduceBEq, reduceAdd, reduceMul, reduceSub, reduceLeDiff, reduceReplicate, Int.reduceBEq, Int.reduceBNe]
    by_cases c3 : (ns.length : Int) > 0
    · simp only [decide_eq_true c3, hda, hdk, go_sem, ↓reduceIte, reduceCtorEq, reduceLT, reduceEqDiff, Nat.reduceBEq, reduceAdd, reduceMul, reduceSub, reduceLeDiff, reduceReplicate, Int.reduceBEq, Int.reduceBNe]
      exact Fz.bool (by
        have : ns.length ≠ 0 := by omega
        simp [tmNode, fieldsF, namesF, this])
    simp only [decide_eq_false c3, hda, hdk, go_sem, ↓reduceIte, reduceCtorEq, reduceLT, reduceEqDiff, Nat.reduceBEq, reduceAdd, reduceMul, reduceSub, reduceLeDiff, reduceReplicate, Int.reduceBEq, Int.reduceBNe]
    have c5 : ns.length = 0 := by omega
    cases c2 : plainT (.mk tk tn tks)
    · simp only [hda, hdk, go_sem, ↓reduceIte, reduceCtorEq, reduceLT, reduceEqDiff, Nat.reduceBEq, reduceAdd, reduceMul, reduceSub, reduceLeDiff, reduceReplicate, Int.reduceBEq, Int.reduceBNe]
      exact Fz.bool (by simp [tmNode, fieldsF, typF, c2])
    simp only [hda, hdk, go_sem, ↓reduceIte, reduceCtorEq, reduceLT, reduceEqDiff, Nat.reduceBEq, reduceAdd, reduceMul, reduceSub, reduceLeDiff, reduceReplicate, Int.reduceBEq, Int.reduceBNe]
    by_cases c6 : v = 0
    case neg =>
      have g6 : (v != 0) = true := bne_t c6
      simp only [g6, hda, hdk, go_sem, ↓reduceIte, reduceCtorEq, reduceLT, reduceEqDiff, Nat.reduceBEq, reduceAdd, reduceMul, reduceSub, reduceLeDiff, reduceReplicate, Int.reduceBEq, Int.reduceBNe]
      exact Fz.bool (by simp [tmNode, fieldsF, numF, c6])
    have g6 : (v != 0) = false := bne_f c6
    simp only [g6, hda, hdk, go_sem, ↓reduceIte, reduceCtorEq, reduceLT, reduceEqDiff, Nat.reduceBEq, reduceAdd, reduceMul, reduceSub, reduceLeDiff, reduceReplicate, Int.reduceBEq, Int.reduceBNe]
    refine drawK_intro mixed (by kernel_rfl) ?_
    refine callQ_intro _ (isLower n hn) (by simp) rfl ?_
    simp only [hda, hdk, go_sem, ↓reduceIte, reduceCtorEq, reduceLT, reduceEqDiff, Nat.reduceBEq, reduceAdd, reduceMul, reduceSub, reduceLeDiff, reduceReplicate, Int.reduceBEq, Int.reduceBNe]
    refine callQ_intro _ (isUpper n hn) (by simp) rfl ?_
    simp only [hda, hdk, go_sem, ↓reduceIte, reduceCtorEq, reduceLT, reduceEqDiff, Nat.reduceBEq, reduceAdd, reduceMul, reduceSub, reduceLeDiff, reduceReplicate, Int.reduceBEq, Int.reduceBNe]
    by_cases c1 : n = nE
    case neg =>
      have g1 : (n.toList == (⟨#[]⟩ : ByteArray).toList) = false := by rw [bytes_eq]; exact decide_eq_false c1
      simp only [g1, hda, hdk, go_sem, ↓reduceIte, reduceCtorEq, reduceLT, reduceEqDiff, Nat.reduceBEq, reduceAdd, reduceMul, reduceSub, reduceLeDiff, reduceReplicate, Int.reduceBEq, Int.reduceBNe]
      exact Fz.bool (by simp [tmNode, fieldsF, nameF, c1])
    have g1 : (n.toList == (⟨#[]⟩ : ByteArray).toList) = true := by rw [bytes_eq]; exact decide_eq_true c1
    simp only [g1, hda, hdk, go_sem, ↓reduceIte, reduceCtorEq, reduceLT, reduceEqDiff, Nat.reduceBEq, reduceAdd, reduceMul, reduceSub, reduceLeDiff, reduceReplicate, Int.reduceBEq, Int.reduceBNe]
    have g7 : ((ks.length : Int) == 3) = decide ((ks.length : Int) ≥ 3 ∧ (ks.length : Int) ≤ 3) := by rw [int_beq, decide_eq_decide]; omega
    simp only [g7, hda, hdk, go_sem, ↓reduceIte, reduceCtorEq, reduceLT, reduceEqDiff, Nat.reduceBEq, reduceAdd, reduceMul, reduceSub, reduceLeDiff, reduceReplicate, Int.reduceBEq, Int.reduceBNe]
    exact Fz.bool (by simp [tmNode, fieldsF, nameF, typF, namesF, numF, kidsR, c1, c5, c2, c6, inR])
  · have b1 : (k == 1) = false := by simp [h1]
    have m1 : (k != 1) = true := by simp [h1]
    have b2 : (k == 2) = false := by simp [h2]
    have m2 : (k != 2) = true := by simp [h2]
    have b3 : (k == 3) = false := by simp [h3]
    have m3 : (k != 3) = true := by simp [h3]
    have b4 : (k == 4) = false := by simp [h4]
    have m4 : (k != 4) = true := by simp [h4]
    have b5 : (k == 5) = false := by simp [h5]
    have m5 : (k != 5) = true := by simp [h5]
    have b6 : (k == 6) = false := by simp [h6]
    have m6 : (k != 6) = true := by simp [h6]
    have b7 : (k == 7) = false := by simp [h7]
    have m7 : (k != 7) = true := by simp [h7]
    have b8 : (k == 8) = false := by simp [h8]
    have m8 : (k != 8) = true := by simp [h8]
    have b9 : (k == 9) = false := by simp [h9]
    have m9 : (k != 9) = true := by simp [h9]
    have b10 : (k == 10) = false := by simp [h10]
    have m10 : (k != 10) = true := by simp [h10]
    have b11 : (k == 11) = false := by simp [h11]
    have m11 : (k != 11) = true := by simp [h11]
    simp only [hda, hdk, b1, m1, b2, m2, b3, m3, b4, m4, b5, m5, b6, m6, b7, m7, b8, m8, b9, m9, b10, m10, b11, m11, go_sem, ↓reduceIte, reduceCtorEq, reduceLT, reduceEqDiff, Nat.reduceBEq, reduceAdd, reduceMul, reduceSub, reduceLeDiff, reduceReplicate]
    by_cases c3 : (ns.length : Int) > 0
    · simp only [decide_eq_true c3, hda, hdk, b1, m1, b2, m2, b3, m3, b4, m4, b5, m5, b6, m6, b7, m7, b8, m8, b9, m9, b10, m10, b11, m11, go_sem, ↓reduceIte, reduceCtorEq, reduceLT, reduceEqDiff, Nat.reduceBEq, reduceAdd, reduceMul, reduceSub, reduceLeDiff, reduceReplicate]
      exact Fz.bool (by
        have : ns.length ≠ 0 := by omega
        simp [tmNode, fieldsF, namesF, this, h1, h2, h3, h4, h5, h6, h7, h8, h9, h10, h11])
    simp only [decide_eq_false c3, hda, hdk, b1, m1, b2, m2, b3, m3, b4, m4, b5, m5, b6, m6, b7, m7, b8, m8, b9, m9, b10, m10, b11, m11, go_sem, ↓reduceIte, reduceCtorEq, reduceLT, reduceEqDiff, Nat.reduceBEq, reduceAdd, reduceMul, reduceSub, reduceLeDiff, reduceReplicate]
    have c5 : ns.length = 0 := by omega
    cases c2 : plainT (.mk tk tn tks)
    · simp only [hda, hdk, b1, m1, b2, m2, b3, m3, b4, m4, b5, m5, b6, m6, b7, m7, b8, m8, b9, m9, b10, m10, b11, m11, go_sem, ↓reduceIte, reduceCtorEq, reduceLT, reduceEqDiff, Nat.reduceBEq, reduceAdd, reduceMul, reduceSub, reduceLeDiff, reduceReplicate]
      exact Fz.bool (by simp [tmNode, fieldsF, typF, c2, h1, h2, h3, h4, h5, h6, h7, h8, h9, h10, h11])
    simp only [hda, hdk, b1, m1, b2, m2, b3, m3, b4, m4, b5, m5, b6, m6, b7, m7, b8, m8, b9, m9, b10, m10, b11, m11, go_sem, ↓reduceIte, reduceCtorEq, reduceLT, reduceEqDiff, Nat.reduceBEq, reduceAdd, reduceMul, reduceSub, reduceLeDiff, reduceReplicate]
    by_cases c6 : v = 0
    case neg =>
      have g6 : (v != 0) = true := bne_t c6
      simp only [g6, hda, hdk, b1, m1, b2, m2, b3, m3, b4, m4, b5, m5, b6, m6, b7, m7, b8, m8, b9, m9, b10, m10, b11, m11, go_sem, ↓reduceIte, reduceCtorEq, reduceLT, reduceEqDiff, Nat.reduceBEq, reduceAdd, reduceMul, reduceSub, reduceLeDiff, reduceReplicate]
      exact Fz.bool (by simp [tmNode, fieldsF, numF, c6, h1, h2, h3, h4, h5, h6, h7, h8, h9, h10, h11])
    have g6 : (v != 0) = false := bne_f c6
    simp only [g6, hda, hdk, b1, m1, b2, m2, b3, m3, b4, m4, b5, m5, b6, m6, b7, m7, b8, m8, b9, m9, b10, m10, b11, m11, go_sem, ↓reduceIte, reduceCtorEq, reduceLT, reduceEqDiff, Nat.reduceBEq, reduceAdd, reduceMul, reduceSub, reduceLeDiff, reduceReplicate]
    refine drawK_intro mixed (by kernel_rfl) ?_
    refine callQ_intro _ (isLower n hn) (by simp) rfl ?_
    simp only [hda, hdk, b1, m1, b2, m2, b3, m3, b4, m4, b5, m5, b6, m6, b7, m7, b8, m8, b9, m9, b10, m10, b11, m11, go_sem, ↓reduceIte, reduceCtorEq, reduceLT, reduceEqDiff, Nat.reduceBEq, reduceAdd, reduceMul, reduceSub, reduceLeDiff, reduceReplicate]
    refine callQ_intro _ (isUpper n hn) (by simp) rfl ?_
    simp only [hda, hdk, b1, m1, b2, m2, b3, m3, b4, m4, b5, m5, b6, m6, b7, m7, b8, m8, b9, m9, b10, m10, b11, m11, go_sem, ↓reduceIte, reduceCtorEq, reduceLT, reduceEqDiff, Nat.reduceBEq, reduceAdd, reduceMul, reduceSub, reduceLeDiff, reduceReplicate]
    exact Fz.bool (by simp [tmNode, kidsR, inR, h1, h2, h3, h4, h5, h6, h7, h8, h9, h10, h11]; intro h; omega)
end Go.Proofs.YtcidmkcicagpaaaGreat
