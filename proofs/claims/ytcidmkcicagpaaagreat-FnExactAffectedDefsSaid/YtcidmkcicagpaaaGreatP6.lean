/-
  Contracts over data of the form and size of terms, of the program and of the reference. No condition.
-/
import Derived.Test.YtcidmkcicagpaaaGreatP5
namespace Go.Proofs.YtcidmkcicagpaaaGreat
open Go.Fw
open Nat (reduceLT reduceEqDiff reduceAdd reduceMul reduceSub reduceLeDiff)
open List (reduceReplicate)
open Classical
set_option maxRecDepth 100000
set_option linter.unusedSimpArgs false
set_option linter.unusedVariables false
def Term.kd : Term → Int
  | .mk k _ _ _ _ _ => k
theorem Term.head (x : Term) : x.ds.head? = some (I (Term.kd x)) := by cases x; rfl
def caseF (k : Int) (ks : List Term) : Bool := decide (∀ (i : Nat) (h : i < ks.length), decide (Term.kd ks[i] = 10) = (decide (k = 9) && decide (0 < i)))
noncomputable def tmOk : Term → Bool
  | .mk k v n ty ns ks => tmNode (.mk k v n ty ns ks) && caseF k ks
noncomputable abbrev gdM : Term → Bool := Term.good tmOk
noncomputable def tmF (t : Term) : Bool := gdM t && decide (Term.kd t ≠ 10) && decide (t.dep ≤ 24 ∧ t.num ≤ 160)
theorem termShape_step (k0 v : Int) (n : ByteArray) (tk : Int) (tn : ByteArray) (tks : List Typ) (ns : List ByteArray) (ks : List Term) (hn : n.size ≤ maxLen) (hts : (Typ.mk tk tn tks).sz ≤ 1048576) (hto : (Typ.mk tk tn tks).ok) (hnl : ns.length ≤ maxLen) (hns : ∀ s ∈ ns, ByteArray.size s ≤ maxLen)
    (hb : Term.numS ks < 9000000000000000000) (hl : ks.length ≤ maxLen)
    (hel : ∀ x ∈ ks, Sp Tryz.prog 108 [.ag x.ds] (.tp [I (if gdM x then x.dep else 0), I (if gdM x then x.num else 0), B (gdM x)])) :
    Sp Tryz.prog 108 [.ag (Term.ds (.mk k0 v n (.mk tk tn tks) ns ks))] (.tp [I (if gdM (.mk k0 v n (.mk tk tn tks) ns ks) then (Term.mk k0 v n (.mk tk tn tks) ns ks).dep else 0), I (if gdM (.mk k0 v n (.mk tk tn tks) ns ks) then (Term.mk k0 v n (.mk tk tn tks) ns ks).num else 0), B (gdM (.mk k0 v n (.mk tk tn tks) ns ks))]) := by
  unfold maxLen at hl
  have hda : (Term.dsL ks).length = ks.length := Term.dsL_len ks
  have hds : Term.ds (.mk k0 v n (.mk tk tn tks) ns ks) = [I k0, I v, S n, I tk, S tn, .sl 3 (Typ.dsL tks), .sl 1 (ns.map fun s => [S s]), .sl 8 (Term.dsL ks)] := by simp [Term.ds, Typ.ds, strs]
  have hgd : gdM (.mk k0 v n (.mk tk tn tks) ns ks) = (tmNode (.mk k0 v n (.mk tk tn tks) ns ks) && caseF k0 ks && ks.all gdM) := by rw [gdM, Term.good, Term.goodS_eq]; rfl
  have hdp : (Term.mk k0 v n (.mk tk tn tks) ns ks).dep = 1 + Term.depS ks := by rw [Term.dep]
  have hcn : (Term.mk k0 v n (.mk tk tn tks) ns ks).num = 1 + Term.numS ks := by rw [Term.num]
  have tcl : ∀ d ∈ ([I k0, I v, S n, I tk, S tn, .sl 3 (Typ.dsL tks), .sl 1 (ns.map fun s => [S s]), .sl 8 (Term.dsL ks)] : List D), Cl d := by rw [← hds]; exact Term.cl _
  have vn := validNode k0 v n tk tn tks ns ks hn hts hto hnl hns
  rw [hds] at vn
  have bad : tmNode (.mk k0 v n (.mk tk tn tks) ns ks) = false ∨ caseF k0 ks = false ∨ ks.all gdM = false → gdM (.mk k0 v n (.mk tk tn tks) ns ks) = false := fun h => by
    rw [hgd]; rcases h with h | h | h <;> simp [h]
  rw [hds]
  refine Sp.of_vc [] [.tmp 2, .tmp 3, .tmp 4] Tryz.func108 rfl (by kernel_rfl) Tryz.ntmps108 rfl (by simp) ?_
  simp only [hda, go_sem, ↓reduceIte, reduceCtorEq, reduceLT, reduceEqDiff, Nat.reduceBEq, reduceAdd, reduceMul, reduceSub, reduceLeDiff, reduceReplicate]
  refine callK_intro _ vn (by simp only [List.nil_append, List.append_nil, List.forall_mem_cons]; exact ⟨Cl.ag' tcl, by simp⟩) ?_
  cases hn0 : tmNode (.mk k0 v n (.mk tk tn tks) ns ks)
  · simp only [go_sem, ↓reduceIte, reduceCtorEq, reduceLT, reduceEqDiff, Nat.reduceBEq, reduceAdd, reduceMul, reduceSub, reduceLeDiff, reduceReplicate]
    refine Fz.same ?_ (by simp)
    simp [bad (.inl hn0)]
  simp only [hda, go_sem, ↓reduceIte, reduceCtorEq, reduceLT, reduceEqDiff, Nat.reduceBEq, reduceAdd, reduceMul, reduceSub, reduceLeDiff, reduceReplicate]
  refine loop_count 16 ks.length (fun k => Fw.Inv 50 [(1, .cp [I k0, I v, S n, I tk, S tn, .sl 3 (Typ.dsL tks), .sl 1 (ns.map fun s => [S s]), .sl 8 (Term.dsL ks)]), (14, Term.sl ks), (15, I ks.length), (2, I ((1 + Term.depS (ks.take k) : Nat) : Int)), (3, I ((1 + Term.numS (ks.take k) : Nat) : Int))] ((ks.take k).all gdM = true ∧ ∀ (i : Nat) (h : i < ks.length), i < k → decide (Term.kd ks[i] = 10) = (decide (k0 = 9) && decide (0 < i)))) rfl ⟨rfl, by simp [Term.sl, envOf, setE, Term.depS, Term.numS], by simp, by simp⟩ ?_
  rintro k ⟨env, H, n', nt, T⟩ hk h5 ⟨rfl, hfs, hp, hp2⟩
  simp only [List.forall_mem_cons, Term.sl] at h5 hfs
  obtain ⟨eb, e0, e1, e2, e3, -⟩ := hfs
  simp only [h5, eb, e0, e1, e2, e3, hda, go_sem, ↓reduceIte, reduceCtorEq, reduceLT, reduceEqDiff, Nat.reduceBEq, reduceAdd, reduceMul, reduceSub, reduceLeDiff, reduceReplicate]
  refine condK_split (fun h => ?_) (fun h => ?_)
  · have hlt : k < ks.length := by simpa using h
    have hx := List.getElem_mem hlt
    have g0 := Term.dsL_get ks k hlt
    have hd0 := Term.ds_len ks[k]
    have ht0 : List.take 8 ks[k].ds = ks[k].ds := List.take_of_length_le (by omega)
    have ho0 : (ks[k].ds).all oneD = true := by rw [List.all_eq_true]; exact Term.one ks[k]
    have hh0 := Term.head ks[k]
    simp only [h, h5, eb, e0, e1, e2, e3, g0, hd0, ht0, ho0, hh0, List.take_zero, List.nil_append, go_sem, ↓reduceIte, reduceCtorEq, reduceLT, reduceEqDiff, Nat.reduceBEq, reduceAdd, reduceMul, reduceSub, reduceLeDiff, reduceReplicate]
    have hcase : ∀ b : Bool, (decide (Term.kd ks[k] = 10) = (decide (k0 = 9) && decide (0 < k))) = True ∨ (decide (Term.kd ks[k] = 10) = (decide (k0 = 9) && decide (0 < k))) = False := fun _ => by by_cases hh : decide (Term.kd ks[k] = 10) = (decide (k0 = 9) && decide (0 < k)) <;> simp [hh]
    have step : ∀ X Y : Bool, True := fun _ _ => trivial
    by_cases c9 : k0 = 9
    · have f9 : (k0 == 9) = true := by simp [c9]
      simp only [f9, h5, eb, e0, e1, e2, e3, g0, hd0, ht0, ho0, hh0, List.take_zero, List.nil_append, go_sem, ↓reduceIte, reduceCtorEq, reduceLT, reduceEqDiff, Nat.reduceBEq, reduceAdd, reduceMul, reduceSub, reduceLeDiff, reduceReplicate]
      have fk : decide ((k : Int) > 0) = decide (0 < k) := by rw [decide_eq_decide]; omega
      by_cases hq : decide (Term.kd ks[k] = 10) = (decide (k0 = 9) && decide (0 < k))
      case neg =>
        have fq : ((Term.kd ks[k] == 10) != decide ((k : Int) > 0)) = true := by
          rw [fk, int_beq]; simp only [c9, decide_true, Bool.true_and] at hq; revert hq; cases decide (Term.kd ks[k] = 10) <;> cases decide (0 < k) <;> simp
        simp only [fq, go_sem, ↓reduceIte, reduceCtorEq, reduceLT, reduceEqDiff, Nat.reduceBEq, reduceAdd, reduceMul, reduceSub, reduceLeDiff, reduceReplicate]
        refine Fz.same ?_ (by simp)
        simp [bad (.inr (.inl (by rw [caseF, decide_eq_false_iff_not]; intro hh; exact hq (hh k hlt))))]
      have fq : ((Term.kd ks[k] == 10) != decide ((k : Int) > 0)) = false := by
        rw [fk, int_beq]; simp only [c9, decide_true, Bool.true_and] at hq; rw [hq]; simp
      simp only [fq, h5, eb, e0, e1, e2, e3, g0, hd0, ht0, ho0, hh0, List.take_zero, List.nil_append, go_sem, ↓reduceIte, reduceCtorEq, reduceLT, reduceEqDiff, Nat.reduceBEq, reduceAdd, reduceMul, reduceSub, reduceLeDiff, reduceReplicate]
      refine callK_intro _ (hel ks[k] hx) (by simp; exact Term.cl _) ?_
      have hc1 := Term.num_mem hx
      have hc2 := Term.dep_le_num ks[k]
      have hc3 := Term.numS_le ks (k + 1)
      rw [Term.numS_take ks k hlt] at hc3
      have hc4 := Term.depS_le_numS (ks.take k)
      cases hg : gdM ks[k]
      · simp only [h5, e0, e1, e2, e3, hd0, ht0, ho0, hh0, List.take_zero, List.nil_append, go_sem, ↓reduceIte, reduceCtorEq, reduceLT, reduceEqDiff, Nat.reduceBEq, reduceAdd, reduceMul, reduceSub, reduceLeDiff, reduceReplicate]
        refine Fz.same ?_ (by simp)
        simp [bad (.inr (.inr (all_of_take hlt hg)))]
      have w1 := wrap_succ ks[k].dep (by omega)
      have w2 := wrap_add (1 + Term.numS (ks.take k)) ks[k].num (by omega)
      simp only [h5, e0, e1, e2, e3, w1, w2, hd0, ht0, ho0, hh0, List.take_zero, List.nil_append, go_sem, ↓reduceIte, reduceCtorEq, reduceLT, reduceEqDiff, Nat.reduceBEq, reduceAdd, reduceMul, reduceSub, reduceLeDiff, reduceReplicate]
      have m1 : (if ((ks[k].dep + 1 : Nat) : Int) > ((1 + Term.depS (ks.take k) : Nat) : Int) then ((ks[k].dep + 1 : Nat) : Int) else ((1 + Term.depS (ks.take k) : Nat) : Int)) = ((1 + Term.depS (ks.take (k + 1)) : Nat) : Int) := by
        rw [Term.depS_take ks k hlt]; split <;> omega
      have m2 : 1 + Term.numS (ks.take k) + ks[k].num = 1 + Term.numS (ks.take (k + 1)) := by rw [Term.numS_take ks k hlt]; omega
      refine nextC_mk (by simp [setE, wrap_succ k (by omega)]) hlt ⟨rfl, ?_, by rw [all_take_succ hlt, hp, hg]; rfl, fun i hi hik => ?_⟩
      · simp only [eb, e0, e1, m1, m2, Term.sl, List.forall_mem_cons, List.not_mem_nil, false_implies, implies_true, setE, ↓reduceIte, Nat.reduceEqDiff, reduceCtorEq, and_true, true_and, and_self, eq_self]
      · by_cases hik' : i < k
        · exact hp2 i hi hik'
        · have : i = k := by omega
          subst this; exact hq
    · have f9 : (k0 == 9) = false := by simp [c9]
      simp only [f9, h5, eb, e0, e1, e2, e3, g0, hd0, ht0, ho0, hh0, List.take_zero, List.nil_append, go_sem, ↓reduceIte, reduceCtorEq, reduceLT, reduceEqDiff, Nat.reduceBEq, reduceAdd, reduceMul, reduceSub, reduceLeDiff, reduceReplicate]
      by_cases hq : decide (Term.kd ks[k] = 10) = (decide (k0 = 9) && decide (0 < k))
      case neg =>
        have fq : ((Term.kd ks[k] == 10) != false) = true := by
          rw [int_beq]; simp only [c9, decide_false, Bool.false_and] at hq; revert hq; cases decide (Term.kd ks[k] = 10) <;> simp
        simp only [fq, go_sem, ↓reduceIte, reduceCtorEq, reduceLT, reduceEqDiff, Nat.reduceBEq, reduceAdd, reduceMul, reduceSub, reduceLeDiff, reduceReplicate]
        refine Fz.same ?_ (by simp)
        simp [bad (.inr (.inl (by rw [caseF, decide_eq_false_iff_not]; intro hh; exact hq (hh k hlt))))]
      have fq : ((Term.kd ks[k] == 10) != false) = false := by
        rw [int_beq]; simp only [c9, decide_false, Bool.false_and] at hq; rw [hq]; simp
      simp only [fq, h5, eb, e0, e1, e2, e3, g0, hd0, ht0, ho0, hh0, List.take_zero, List.nil_append, go_sem, ↓reduceIte, reduceCtorEq, reduceLT, reduceEqDiff, Nat.reduceBEq, reduceAdd, reduceMul, reduceSub, reduceLeDiff, reduceReplicate]
      refine callK_intro _ (hel ks[k] hx) (by simp; exact Term.cl _) ?_
      have hc1 := Term.num_mem hx
      have hc2 := Term.dep_le_num ks[k]
      have hc3 := Term.numS_le ks (k + 1)
      rw [Term.numS_take ks k hlt] at hc3
      have hc4 := Term.depS_le_numS (ks.take k)
      cases hg : gdM ks[k]
      · simp only [h5, e0, e1, e2, e3, hd0, ht0, ho0, hh0, List.take_zero, List.nil_append, go_sem, ↓reduceIte, reduceCtorEq, reduceLT, reduceEqDiff, Nat.reduceBEq, reduceAdd, reduceMul, reduceSub, reduceLeDiff, reduceReplicate]
        refine Fz.same ?_ (by simp)
        simp [bad (.inr (.inr (all_of_take hlt hg)))]
      have w1 := wrap_succ ks[k].dep (by omega)
      have w2 := wrap_add (1 + Term.numS (ks.take k)) ks[k].num (by omega)
      simp only [h5, e0, e1, e2, e3, w1, w2, hd0, ht0, ho0, hh0, List.take_zero, List.nil_append, go_sem, ↓reduceIte, reduceCtorEq, reduceLT, reduceEqDiff, Nat.reduceBEq, reduceAdd, reduceMul, reduceSub, reduceLeDiff, reduceReplicate]
      have m1 : (if ((ks[k].dep + 1 : Nat) : Int) > ((1 + Term.depS (ks.take k) : Nat) : Int) then ((ks[k].dep + 1 : Nat) : Int) else ((1 + Term.depS (ks.take k) : Nat) : Int)) = ((1 + Term.depS (ks.take (k + 1)) : Nat) : Int) := by
        rw [Term.depS_take ks k hlt]; split <;> omega
      have m2 : 1 + Term.numS (ks.take k) + ks[k].num = 1 + Term.numS (ks.take (k + 1)) := by rw [Term.numS_take ks k hlt]; omega
      refine nextC_mk (by simp [setE, wrap_succ k (by omega)]) hlt ⟨rfl, ?_, by rw [all_take_succ hlt, hp, hg]; rfl, fun i hi hik => ?_⟩
      · simp only [eb, e0, e1, m1, m2, Term.sl, List.forall_mem_cons, List.not_mem_nil, false_implies, implies_true, setE, ↓reduceIte, Nat.reduceEqDiff, reduceCtorEq, and_true, true_and, and_self, eq_self]
      · by_cases hik' : i < k
        · exact hp2 i hi hik'
        · have : i = k := by omega
          subst this; exact hq
  · have hk' : k = ks.length := by simp at h; omega
    subst hk'
    rw [List.take_length] at hp e2 e3
    simp only [h, e2, e3, go_sem, ↓reduceIte, reduceCtorEq, reduceLT, reduceEqDiff, Nat.reduceBEq, reduceAdd, reduceMul, reduceSub, reduceLeDiff, reduceReplicate]
    refine Fz.same ?_ (by simp)
    have hcf : caseF k0 ks = true := by rw [caseF, decide_eq_true_eq]; exact fun i hi => hp2 i hi hi
    have hgt : gdM (.mk k0 v n (.mk tk tn tks) ns ks) = true := by rw [hgd, hn0, hcf, hp]; rfl
    simp [hgt, hdp, hcn]
theorem termShape (t : Term) (hs : t.sz ≤ 1048576) (ho : t.ok) : Sp Tryz.prog 108 [.ag t.ds] (.tp [I (if gdM t then t.dep else 0), I (if gdM t then t.num else 0), B (gdM t)]) := by
  match t, hs, ho with
  | .mk k v n ⟨tk, tn, tks⟩ ns ks, hs, ho =>
  simp only [Term.ok] at ho
  obtain ⟨o1, o2, o3, o4, o5, o6⟩ := ho
  simp only [Term.sz] at hs
  have hb := Term.numS_le_szS ks
  exact termShape_step k v n tk tn tks ns ks o1 (by omega) o2 o3 o4 (by omega) o5 fun x hx => termShape x (by have := Term.sz_mem hx; omega) (Term.okS_mem o6 x hx)
termination_by t
decreasing_by all_goals (have := List.sizeOf_lt_of_mem hx; simp; omega)
theorem validTerm (t : Term) (hs : t.sz ≤ 1048576) (ho : t.ok) : Sp Tryz.prog 69 [.ag t.ds] (B (tmF t)) := by
  have hd0 := Term.ds_len t
  have ht0 : List.take 8 t.ds = t.ds := List.take_of_length_le (by omega)
  have ho0 : (t.ds).all oneD = true := by rw [List.all_eq_true]; exact Term.one t
  have hh0 := Term.head t
  refine Sp.of_vc [] [.tmp 2] Tryz.func69 rfl (by kernel_rfl) Tryz.ntmps69 rfl (by simp) ?_
  simp only [hd0, ht0, ho0, hh0, List.take_zero, List.nil_append, go_sem, ↓reduceIte, reduceCtorEq, reduceLT, reduceEqDiff, Nat.reduceBEq, reduceAdd, reduceMul, reduceSub, reduceLeDiff, reduceReplicate]
  refine callK_intro _ (termShape t hs ho) (by simp; exact Term.cl _) ?_
  cases hg : gdM t
  · simp only [go_sem, ↓reduceIte, reduceCtorEq, reduceLT, reduceEqDiff, Nat.reduceBEq, reduceAdd, reduceMul, reduceSub, reduceLeDiff, reduceReplicate]
    exact Fz.bool (by simp only [tmF, hg, Bool.false_and])
  simp only [hd0, ht0, ho0, hh0, List.take_zero, List.nil_append, go_sem, ↓reduceIte, reduceCtorEq, reduceLT, reduceEqDiff, Nat.reduceBEq, reduceAdd, reduceMul, reduceSub, reduceLeDiff, reduceReplicate]
  by_cases c0 : Term.kd t = 10
  · have f0 : (Term.kd t != 10) = false := bne_f c0
    simp only [f0, go_sem, ↓reduceIte, reduceCtorEq, reduceLT, reduceEqDiff, Nat.reduceBEq, reduceAdd, reduceMul, reduceSub, reduceLeDiff, reduceReplicate]
    exact Fz.bool (by simp [tmF, c0])
  have f0 : (Term.kd t != 10) = true := bne_t c0
  simp only [f0, go_sem, ↓reduceIte, reduceCtorEq, reduceLT, reduceEqDiff, Nat.reduceBEq, reduceAdd, reduceMul, reduceSub, reduceLeDiff, reduceReplicate]
  by_cases c1 : t.dep ≤ 24
  · have f1 : decide ((t.dep : Int) ≤ 24) = true := by simp; omega
    simp only [f1, go_sem, ↓reduceIte, reduceCtorEq, reduceLT, reduceEqDiff, Nat.reduceBEq, reduceAdd, reduceMul, reduceSub, reduceLeDiff, reduceReplicate]
    refine Fz.bool ?_
    rw [tmF, hg, Bool.true_and, decide_eq_true c0, Bool.true_and, decide_eq_decide]
    omega
  · have f1 : decide ((t.dep : Int) ≤ 24) = false := by simp; omega
    simp only [f1, go_sem, ↓reduceIte, reduceCtorEq, reduceLT, reduceEqDiff, Nat.reduceBEq, reduceAdd, reduceMul, reduceSub, reduceLeDiff, reduceReplicate]
    exact Fz.bool (by simp [tmF, c1])
noncomputable def tmN (t : Term) (d : Int) (ic : Bool) (l : Int) : Int := if gdM t = true ∧ decide (Term.kd t = 10) = ic ∧ (t.dep : Int) ≤ d ∧ (t.num : Int) ≤ l then t.num else -1
theorem l03Nodes_step (k0 v : Int) (n : ByteArray) (tk : Int) (tn : ByteArray) (tks : List Typ) (ns : List ByteArray) (ks : List Term) (a : Int) (ic : Bool) (l : Int) (ha0 : 0 ≤ a) (ha : a ≤ 24) (hl0 : 0 ≤ l) (hl1 : l ≤ 160) (hn : n.size ≤ maxLen) (hts : (Typ.mk tk tn tks).sz ≤ 1048576) (hto : (Typ.mk tk tn tks).ok) (hnl : ns.length ≤ maxLen) (hns : ∀ s ∈ ns, ByteArray.size s ≤ maxLen)
    (hl : ks.length ≤ maxLen)
    (hel : ∀ x ∈ ks, ∀ (a : Int) (ic : Bool) (l : Int), 0 ≤ a → a ≤ 24 → 0 ≤ l → l ≤ 160 → Sp Tryz.prog 100 [.cp x.ds, I a, B ic, I l] (I (tmN x a ic l))) :
    Sp Tryz.prog 100 [.cp (Term.ds (.mk k0 v n (.mk tk tn tks) ns ks)), I a, B ic, I l] (I (tmN (.mk k0 v n (.mk tk tn tks) ns ks) a ic l)) := by
  unfold maxLen at hl
  have hda : (Term.dsL ks).length = ks.length := Term.dsL_len ks
  have hds : Term.ds (.mk k0 v n (.mk tk tn tks) ns ks) = [I k0, I v, S n, I tk, S tn, .sl 3 (Typ.dsL tks), .sl 1 (ns.map fun s => [S s]), .sl 8 (Term.dsL ks)] := by simp [Term.ds, Typ.ds, strs]
  have hgd : gdM (.mk k0 v n (.mk tk tn tks) ns ks) = (tmNode (.mk k0 v n (.mk tk tn tks) ns ks) && caseF k0 ks && ks.all gdM) := by rw [gdM, Term.good, Term.goodS_eq]; rfl
  have hdp : (Term.mk k0 v n (.mk tk tn tks) ns ks).dep = 1 + Term.depS ks := by rw [Term.dep]
  have hcn : (Term.mk k0 v n (.mk tk tn tks) ns ks).num = 1 + Term.numS ks := by rw [Term.num]
  have tcl : ∀ d ∈ ([I k0, I v, S n, I tk, S tn, .sl 3 (Typ.dsL tks), .sl 1 (ns.map fun s => [S s]), .sl 8 (Term.dsL ks)] : List D), Cl d := by rw [← hds]; exact Term.cl _
  have lf := l03Fields k0 v n tk tn tks ns ks hn hts hto hnl hns
  rw [hds] at lf
  have hnd : tmNode (.mk k0 v n (.mk tk tn tks) ns ks) = (inR ks.length (kidsR k0).1 (kidsR k0).2 && fieldsF (.mk k0 v n (.mk tk tn tks) ns ks)) := rfl
  have bad : tmNode (.mk k0 v n (.mk tk tn tks) ns ks) = false → -1 = tmN (.mk k0 v n (.mk tk tn tks) ns ks) a ic l := fun h => by
    unfold tmN; rw [if_neg]; rintro ⟨h1, _⟩; rw [hgd, h] at h1; cases h1
  have hkd : Term.kd (.mk k0 v n (.mk tk tn tks) ns ks) = k0 := rfl
  rw [hds]
  refine Sp.of_vc [] [.tmp 8] Tryz.func100 rfl (by kernel_rfl) Tryz.ntmps100 rfl (by simp) ?_
  simp only [hda, go_sem, ↓reduceIte, reduceCtorEq, reduceLT, reduceEqDiff, Nat.reduceBEq, reduceAdd, reduceMul, reduceSub, reduceLeDiff, reduceReplicate]
  refine callK_intro _ (l03Kids k0) (by simp) ?_
  simp only [hda, go_sem, ↓reduceIte, reduceCtorEq, reduceLT, reduceEqDiff, Nat.reduceBEq, reduceAdd, reduceMul, reduceSub, reduceLeDiff, reduceReplicate]
  by_cases c1 : a < 1
  · simp only [decide_eq_true c1, go_sem, ↓reduceIte, reduceCtorEq, reduceLT, reduceEqDiff, Nat.reduceBEq, reduceAdd, reduceMul, reduceSub, reduceLeDiff, reduceReplicate]
    refine Fz.int ?_
    unfold tmN; rw [if_neg]; rintro ⟨_, _, h, _⟩; omega
  simp only [decide_eq_false c1, go_sem, ↓reduceIte, reduceCtorEq, reduceLT, reduceEqDiff, Nat.reduceBEq, reduceAdd, reduceMul, reduceSub, reduceLeDiff, reduceReplicate]
  by_cases c2 : l < 1
  · simp only [decide_eq_true c2, go_sem, ↓reduceIte, reduceCtorEq, reduceLT, reduceEqDiff, Nat.reduceBEq, reduceAdd, reduceMul, reduceSub, reduceLeDiff, reduceReplicate]
    refine Fz.int ?_
    unfold tmN; rw [if_neg]; rintro ⟨_, _, _, h⟩; omega
  simp only [decide_eq_false c2, hda, go_sem, ↓reduceIte, reduceCtorEq, reduceLT, reduceEqDiff, Nat.reduceBEq, reduceAdd, reduceMul, reduceSub, reduceLeDiff, reduceReplicate]
  by_cases c3 : decide (k0 = 10) = ic
  case neg =>
    have f3 : ((k0 == 10) != ic) = true := by rw [int_beq]; simpa using c3
    simp only [f3, go_sem, ↓reduceIte, reduceCtorEq, reduceLT, reduceEqDiff, Nat.reduceBEq, reduceAdd, reduceMul, reduceSub, reduceLeDiff, reduceReplicate]
    refine Fz.int ?_
    unfold tmN; rw [if_neg]; rintro ⟨_, h, _⟩; exact c3 h
  have f3 : ((k0 == 10) != ic) = false := by rw [int_beq, c3]; simp
  simp only [f3, hda, go_sem, ↓reduceIte, reduceCtorEq, reduceLT, reduceEqDiff, Nat.reduceBEq, reduceAdd, reduceMul, reduceSub, reduceLeDiff, reduceReplicate]
  refine callK_intro _ (l00In _ _ _) (by simp) ?_
  cases c4 : inR ks.length (kidsR k0).1 (kidsR k0).2
  · simp only [go_sem, ↓reduceIte, reduceCtorEq, reduceLT, reduceEqDiff, Nat.reduceBEq, reduceAdd, reduceMul, reduceSub, reduceLeDiff, reduceReplicate]
    exact Fz.int (bad (by rw [hnd, c4]; rfl))
  simp only [hda, go_sem, ↓reduceIte, reduceCtorEq, reduceLT, reduceEqDiff, Nat.reduceBEq, reduceAdd, reduceMul, reduceSub, reduceLeDiff, reduceReplicate]
  refine callK_intro _ lf (by simp only [List.nil_append, List.append_nil, List.forall_mem_cons]; exact ⟨Cl.cp' tcl, by simp⟩) ?_
  cases c5 : fieldsF (.mk k0 v n (.mk tk tn tks) ns ks)
  · simp only [go_sem, ↓reduceIte, reduceCtorEq, reduceLT, reduceEqDiff, Nat.reduceBEq, reduceAdd, reduceMul, reduceSub, reduceLeDiff, reduceReplicate]
    exact Fz.int (bad (by rw [hnd, c5, Bool.and_false]))
  have hn0 : tmNode (.mk k0 v n (.mk tk tn tks) ns ks) = true := by rw [hnd, c4, c5]; rfl
  simp only [hda, go_sem, ↓reduceIte, reduceCtorEq, reduceLT, reduceEqDiff, Nat.reduceBEq, reduceAdd, reduceMul, reduceSub, reduceLeDiff, reduceReplicate]
  refine loop_count 12 ks.length (fun k => Fw.Inv 89 [(0, .cp [I k0, I v, S n, I tk, S tn, .sl 3 (Typ.dsL tks), .sl 1 (ns.map fun s => [S s]), .sl 8 (Term.dsL ks)]), (1, I a), (3, I l), (11, I ((1 + Term.numS (ks.take k) : Nat) : Int))] ((ks.take k).all gdM = true ∧ (∀ (i : Nat) (h : i < ks.length), i < k → decide (Term.kd ks[i] = 10) = (decide (k0 = 9) && decide (0 < i))) ∧ ((1 + Term.depS (ks.take k) : Nat) : Int) ≤ a ∧ ((1 + Term.numS (ks.take k) : Nat) : Int) ≤ l)) rfl ⟨rfl, ?_, by simp, by simp, ?_, ?_⟩ ?_
  · simp [envOf, setE, Term.numS]
  · simp [Term.depS]; omega
  · simp [Term.numS]; omega
  rintro k ⟨env, H, n', nt, T⟩ hk h5 ⟨rfl, hfs, hp, hp2, hp3, hp4⟩
  simp only [List.forall_mem_cons] at h5 hfs
  obtain ⟨e0, e1, e2, e3, -⟩ := hfs
  simp only [h5, e0, e1, e2, e3, hda, go_sem, ↓reduceIte, reduceCtorEq, reduceLT, reduceEqDiff, Nat.reduceBEq, reduceAdd, reduceMul, reduceSub, reduceLeDiff, reduceReplicate]
  refine condK_split (fun h => ?_) (fun h => ?_)
  · have hlt : k < ks.length := by simpa using h
    have hx := List.getElem_mem hlt
    have g0 := Term.dsL_get ks k hlt
    have hd0 := Term.ds_len ks[k]
    have ht0 : List.take 8 ks[k].ds = ks[k].ds := List.take_of_length_le (by omega)
    have ho0 : (ks[k].ds).all oneD = true := by rw [List.all_eq_true]; exact Term.one ks[k]
    have hh0 := Term.head ks[k]
    have w1 : IntKind.i64.wrap (a - 1) = a - 1 := Go.IntWalk.i64_in _ (by omega)
    have w2 : IntKind.i64.wrap (l - ((1 + Term.numS (ks.take k) : Nat) : Int)) = l - ((1 + Term.numS (ks.take k) : Nat) : Int) := Go.IntWalk.i64_in _ (by omega)
    have hd1 := Term.depS_le ks (k + 1)
    have hc1 := Term.numS_le ks (k + 1)
    rw [Term.depS_take ks k hlt] at hd1
    rw [Term.numS_take ks k hlt] at hc1
    simp only [h, h5, e0, e1, e2, e3, g0, w1, w2, hda, go_sem, ↓reduceIte, reduceCtorEq, reduceLT, reduceEqDiff, Nat.reduceBEq, reduceAdd, reduceMul, reduceSub, reduceLeDiff, reduceReplicate]
    refine drawK_intro mixed (by kernel_rfl) ?_
    have fin : ∀ ic' : Bool, ic' = (decide (k0 = 9) && decide (0 < k)) → ¬ (gdM ks[k] = true ∧ decide (Term.kd ks[k] = 10) = ic' ∧ (ks[k].dep : Int) ≤ a - 1 ∧ (ks[k].num : Int) ≤ l - ((1 + Term.numS (ks.take k) : Nat) : Int)) → -1 = tmN (.mk k0 v n (.mk tk tn tks) ns ks) a ic l := fun ic' hic hq => by
      unfold tmN
      rw [if_neg]
      rintro ⟨q1, _, q2, q3⟩
      rw [hgd, hn0, Bool.true_and, Bool.and_eq_true, List.all_eq_true, caseF, decide_eq_true_eq] at q1
      exact hq ⟨q1.2 _ hx, by rw [hic]; exact q1.1 k hlt, by rw [hdp] at q2; omega, by rw [hcn] at q3; omega⟩
    by_cases c9 : k0 = 9
    · have f9 : (k0 == 9) = true := by simp [c9]
      have fk : decide ((k : Int) > 0) = (decide (k0 = 9) && decide (0 < k)) := by rw [c9]; simp
      simp only [f9, fk, h5, e0, e1, e2, e3, g0, w1, w2, hda, go_sem, ↓reduceIte, reduceCtorEq, reduceLT, reduceEqDiff, Nat.reduceBEq, reduceAdd, reduceMul, reduceSub, reduceLeDiff, reduceReplicate]
      refine callQ_intro _ (hel ks[k] hx (a - 1) (decide (k0 = 9) && decide (0 < k)) (l - ((1 + Term.numS (ks.take k) : Nat) : Int)) (by omega) (by omega) (by omega) (by omega)) (by simp only [List.nil_append, List.append_nil, List.forall_mem_cons]; exact ⟨Cl.cp' (Term.cl _), by simp⟩) rfl ?_
      by_cases hq : gdM ks[k] = true ∧ decide (Term.kd ks[k] = 10) = (decide (k0 = 9) && decide (0 < k)) ∧ (ks[k].dep : Int) ≤ a - 1 ∧ (ks[k].num : Int) ≤ l - ((1 + Term.numS (ks.take k) : Nat) : Int)
      · have hr : tmN ks[k] (a - 1) (decide (k0 = 9) && decide (0 < k)) (l - ((1 + Term.numS (ks.take k) : Nat) : Int)) = ks[k].num := by unfold tmN; rw [if_pos hq]
        have hr2 : decide ((ks[k].num : Int) < 0) = false := by simp
        have w3 := wrap_add (1 + Term.numS (ks.take k)) ks[k].num (by omega)
        have m2 : 1 + Term.numS (ks.take k) + ks[k].num = 1 + Term.numS (ks.take (k + 1)) := by rw [Term.numS_take ks k hlt]; omega
        simp only [hr, hr2, h5, e0, e1, e2, e3, w3, go_sem, ↓reduceIte, reduceCtorEq, reduceLT, reduceEqDiff, Nat.reduceBEq, reduceAdd, reduceMul, reduceSub, reduceLeDiff, reduceReplicate]
        refine nextC_mk (by simp [setE, wrap_succ k (by omega)]) hlt ⟨rfl, ?_, by rw [all_take_succ hlt, hp, hq.1]; rfl, fun i hi hik => ?_, ?_, ?_⟩
        · simp only [e0, e1, e2, m2, List.forall_mem_cons, List.not_mem_nil, false_implies, implies_true, setE, ↓reduceIte, Nat.reduceEqDiff, reduceCtorEq, and_true, true_and, and_self, eq_self]
        · by_cases hik' : i < k
          · exact hp2 i hi hik'
          · have : i = k := by omega
            subst this; exact hq.2.1
        · rw [Term.depS_take ks k hlt]; omega
        · rw [Term.numS_take ks k hlt]; omega
      · have hr : tmN ks[k] (a - 1) (decide (k0 = 9) && decide (0 < k)) (l - ((1 + Term.numS (ks.take k) : Nat) : Int)) = -1 := by unfold tmN; rw [if_neg hq]
        have hr2 : decide ((-1 : Int) < 0) = true := rfl
        simp only [hr, hr2, go_sem, ↓reduceIte, reduceCtorEq, reduceLT, reduceEqDiff, Nat.reduceBEq, reduceAdd, reduceMul, reduceSub, reduceLeDiff, reduceReplicate]
        exact Fz.int (fin _ rfl hq)
    · have f9 : (k0 == 9) = false := by simp [c9]
      have fk : (decide (k0 = 9) && decide (0 < k)) = false := by simp [c9]
      simp only [f9, h5, e0, e1, e2, e3, g0, w1, w2, hda, go_sem, ↓reduceIte, reduceCtorEq, reduceLT, reduceEqDiff, Nat.reduceBEq, reduceAdd, reduceMul, reduceSub, reduceLeDiff, reduceReplicate]
      refine callQ_intro _ (hel ks[k] hx (a - 1) false (l - ((1 + Term.numS (ks.take k) : Nat) : Int)) (by omega) (by omega) (by omega) (by omega)) (by simp only [List.nil_append, List.append_nil, List.forall_mem_cons]; exact ⟨Cl.cp' (Term.cl _), by simp⟩) rfl ?_
      by_cases hq : gdM ks[k] = true ∧ decide (Term.kd ks[k] = 10) = false ∧ (ks[k].dep : Int) ≤ a - 1 ∧ (ks[k].num : Int) ≤ l - ((1 + Term.numS (ks.take k) : Nat) : Int)
      · have hr : tmN ks[k] (a - 1) false (l - ((1 + Term.numS (ks.take k) : Nat) : Int)) = ks[k].num := by unfold tmN; rw [if_pos hq]
        have hr2 : decide ((ks[k].num : Int) < 0) = false := by simp
        have w3 := wrap_add (1 + Term.numS (ks.take k)) ks[k].num (by omega)
        have m2 : 1 + Term.numS (ks.take k) + ks[k].num = 1 + Term.numS (ks.take (k + 1)) := by rw [Term.numS_take ks k hlt]; omega
        simp only [hr, hr2, h5, e0, e1, e2, e3, w3, go_sem, ↓reduceIte, reduceCtorEq, reduceLT, reduceEqDiff, Nat.reduceBEq, reduceAdd, reduceMul, reduceSub, reduceLeDiff, reduceReplicate]
        refine nextC_mk (by simp [setE, wrap_succ k (by omega)]) hlt ⟨rfl, ?_, by rw [all_take_succ hlt, hp, hq.1]; rfl, fun i hi hik => ?_, ?_, ?_⟩
        · simp only [e0, e1, e2, m2, List.forall_mem_cons, List.not_mem_nil, false_implies, implies_true, setE, ↓reduceIte, Nat.reduceEqDiff, reduceCtorEq, and_true, true_and, and_self, eq_self]
        · by_cases hik' : i < k
          · exact hp2 i hi hik'
          · have : i = k := by omega
            subst this; exact hq.2.1.trans fk.symm
        · rw [Term.depS_take ks k hlt]; omega
        · rw [Term.numS_take ks k hlt]; omega
      · have hr : tmN ks[k] (a - 1) false (l - ((1 + Term.numS (ks.take k) : Nat) : Int)) = -1 := by unfold tmN; rw [if_neg hq]
        have hr2 : decide ((-1 : Int) < 0) = true := rfl
        simp only [hr, hr2, go_sem, ↓reduceIte, reduceCtorEq, reduceLT, reduceEqDiff, Nat.reduceBEq, reduceAdd, reduceMul, reduceSub, reduceLeDiff, reduceReplicate]
        exact Fz.int (fin _ fk.symm hq)
  · have hk' : k = ks.length := by simp at h; omega
    subst hk'
    rw [List.take_length] at hp hp3 hp4 e3
    simp only [h, e3, go_sem, ↓reduceIte, reduceCtorEq, reduceLT, reduceEqDiff, Nat.reduceBEq, reduceAdd, reduceMul, reduceSub, reduceLeDiff, reduceReplicate]
    refine Fz.int ?_
    have hcf : caseF k0 ks = true := by rw [caseF, decide_eq_true_eq]; exact fun i hi => hp2 i hi hi
    unfold tmN
    rw [if_pos ⟨by rw [hgd, hn0, hcf, hp]; rfl, c3, by rw [hdp]; exact hp3, by rw [hcn]; exact hp4⟩, hcn]
theorem l03Nodes (t : Term) (a : Int) (ic : Bool) (l : Int) (ha0 : 0 ≤ a) (ha : a ≤ 24) (hl0 : 0 ≤ l) (hl1 : l ≤ 160) (hs : t.sz ≤ 1048576) (ho : t.ok) : Sp Tryz.prog 100 [.cp t.ds, I a, B ic, I l] (I (tmN t a ic l)) := by
  match t, hs, ho with
  | .mk k v n ⟨tk, tn, tks⟩ ns ks, hs, ho =>
  simp only [Term.ok] at ho
  obtain ⟨o1, o2, o3, o4, o5, o6⟩ := ho
  simp only [Term.sz] at hs
  exact l03Nodes_step k v n tk tn tks ns ks a ic l ha0 ha hl0 hl1 o1 (by omega) o2 o3 o4 o5 fun x hx a ic l h1 h2 h3 h4 => l03Nodes x a ic l h1 h2 h3 h4 (by have := Term.sz_mem hx; omega) (Term.okS_mem o6 x hx)
termination_by t
decreasing_by all_goals (have := List.sizeOf_lt_of_mem hx; simp; omega)
theorem tmF_eq (t : Term) : decide (tmN t 24 false 160 > 0) = tmF t := by
  have := Term.num_pos t
  unfold tmN tmF
  by_cases h : gdM t = true
  · by_cases h0 : Term.kd t = 10
    · rw [if_neg (by rintro ⟨_, h1, _⟩; simp [h0] at h1)]; simp [h0]
    · by_cases h2 : t.dep ≤ 24 ∧ t.num ≤ 160
      · rw [if_pos ⟨h, by simp [h0], by omega, by omega⟩]; simp [h, h0, h2]; omega
      · rw [if_neg (by rintro ⟨_, _, h3, h4⟩; exact h2 ⟨by omega, by omega⟩)]; simp [h2]
  · rw [if_neg (fun k => h k.1)]; simp [h]
theorem l03Ok (t : Term) (hs : t.sz ≤ 1048576) (ho : t.ok) : Sp Tryz.prog 59 [.cp t.ds] (B (tmF t)) := by
  refine Sp.of_vc [] [.tmp 2] Tryz.func59 rfl (by kernel_rfl) Tryz.ntmps59 rfl (by simp) ?_
  simp only [go_sem, ↓reduceIte, reduceCtorEq, reduceLT, reduceEqDiff, Nat.reduceBEq, reduceAdd, reduceMul, reduceSub, reduceLeDiff, reduceReplicate]
  refine callK_intro _ (l03Nodes t 24 false 160 (by omega) (by omega) (by omega) (by omega) hs ho) (by simp only [List.nil_append, List.append_nil, List.forall_mem_cons]; exact ⟨Cl.cp' (Term.cl _), by simp⟩) ?_
  simp only [go_sem, ↓reduceIte, reduceCtorEq, reduceLT, reduceEqDiff, Nat.reduceBEq, reduceAdd, reduceMul, reduceSub, reduceLeDiff, reduceReplicate]
  exact Fz.bool (tmF_eq t)
end Go.Proofs.YtcidmkcicagpaaaGreat
