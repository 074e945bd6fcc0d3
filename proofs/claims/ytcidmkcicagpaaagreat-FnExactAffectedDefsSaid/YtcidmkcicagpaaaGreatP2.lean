/-
  Contracts over data of types: form, size, sameness, copies, of the program and of the reference. No condition.
-/
import Derived.Test.YtcidmkcicagpaaaGreatL2
import Derived.Test.YtcidmkcicagpaaaGreatP1
import Derived.Test.YtcidmkcicagpaaaGreatK2
namespace Go.Proofs.YtcidmkcicagpaaaGreat
open Go.Fw
open Nat (reduceLT reduceEqDiff reduceAdd reduceMul reduceSub reduceLeDiff)
open List (reduceReplicate)
set_option maxRecDepth 100000
set_option linter.unusedSimpArgs false
set_option linter.unusedVariables false
theorem bne_t {a b : Int} (h : a ≠ b) : (a != b) = true := by simp [h]
theorem bne_f {a b : Int} (h : a = b) : (a != b) = false := by simp [h]
def nE : ByteArray := ⟨#[]⟩
def nInt : ByteArray := ⟨#[73, 110, 116]⟩
def tyNode : Typ → Bool
  | .mk k n ks => if k = 1 then decide (n = nE) && decide (ks.length = 0) else if k = 2 then upB n && !decide (n = nInt) && decide (ks.length = 0)
    else if k = 3 then decide (n = nE) && decide (ks.length = 2) else if k = 4 then decide (n = nE) && decide (ks.length = 1) else false
abbrev gdT : Typ → Bool := Typ.good tyNode
def tyF (t : Typ) : Bool := gdT t && decide (t.dep ≤ 6 ∧ t.num ≤ 16)
theorem l00In (n a b : Int) : Sp Tryz.prog 56 [I n, I a, I b] (B (inR n a b)) := by
  refine Sp.of_vc [] [.tmp 6] Tryz.func56 rfl (by kernel_rfl) Tryz.ntmps56 rfl (by simp) ?_
  simp only [go_sem, ↓reduceIte, reduceCtorEq, reduceLT, reduceEqDiff, Nat.reduceBEq, reduceAdd, reduceMul, reduceSub, reduceLeDiff, reduceReplicate]
  by_cases h1 : n ≥ a
  · simp only [decide_eq_true h1, go_sem, ↓reduceIte, reduceCtorEq, reduceLT, reduceEqDiff, Nat.reduceBEq, reduceAdd, reduceMul, reduceSub, reduceLeDiff, reduceReplicate]
    exact Fz.bool (by simp [inR]; omega)
  · simp only [decide_eq_false h1, go_sem, ↓reduceIte, reduceCtorEq, reduceLT, reduceEqDiff, Nat.reduceBEq, reduceAdd, reduceMul, reduceSub, reduceLeDiff, reduceReplicate]
    exact Fz.bool (by simp [inR]; omega)
theorem typeShape_step (k0 : Int) (nm : ByteArray) (ks : List Typ) (hn : nm.size ≤ maxLen) (hb : Typ.numS ks < 9000000000000000000) (hl : ks.length ≤ maxLen)
    (hel : ∀ x ∈ ks, ∃ a b, Sp Tryz.prog 107 [.ag x.ds] (.tp [I a, I b, B (gdT x)]) ∧ (gdT x = true → a = x.dep ∧ b = x.num)) :
    ∃ a b, Sp Tryz.prog 107 [.ag (Typ.ds (.mk k0 nm ks))] (.tp [I a, I b, B (gdT (.mk k0 nm ks))]) ∧ (gdT (.mk k0 nm ks) = true → a = (Typ.mk k0 nm ks).dep ∧ b = (Typ.mk k0 nm ks).num) := by
  have hl' := hl
  unfold maxLen at hl
  have hda : (Typ.dsL ks).length = ks.length := Typ.dsL_len ks
  have hgd : gdT (.mk k0 nm ks) = (tyNode (.mk k0 nm ks) && ks.all gdT) := by rw [gdT, Typ.good, Typ.goodS_eq]
  by_cases hg : ks.all gdT = true
  case neg =>
    have hg : ks.all gdT = false := by simpa using hg
    refine ⟨0, 0, ?_, fun h => by rw [hgd, hg, Bool.and_false] at h; cases h⟩
    rw [hgd, hg, Bool.and_false]
    refine Sp.of_vc [] [.tmp 2, .tmp 3, .tmp 4] Tryz.func107 rfl (by kernel_rfl) Tryz.ntmps107 rfl (by simp) ?_
    simp only [Typ.ds, hda, go_sem, ↓reduceIte, reduceCtorEq, reduceLT, reduceEqDiff, Nat.reduceBEq, reduceAdd, reduceMul, reduceSub, reduceLeDiff, reduceReplicate]
    refine loop_count 13 ks.length (fun k => Fw.Inv 87 [(11, Typ.sl ks), (12, I ks.length), (2, I ((1 + Typ.depS (ks.take k) : Nat) : Int)), (3, I ((1 + Typ.numS (ks.take k) : Nat) : Int))] ((ks.take k).all gdT = true)) rfl ⟨rfl, by simp [Typ.sl, envOf, setE, Typ.depS, Typ.numS], by simp⟩ ?_
    rintro k ⟨env, H, n, nt, T⟩ hk h5 ⟨rfl, hfs, hp⟩
    simp only [List.forall_mem_cons, Typ.sl] at h5 hfs
    obtain ⟨e0, e1, e2, e3, -⟩ := hfs
    simp only [h5, e0, e1, e2, e3, hda, go_sem, ↓reduceIte, reduceCtorEq, reduceLT, reduceEqDiff, Nat.reduceBEq, reduceAdd, reduceMul, reduceSub, reduceLeDiff, reduceReplicate]
    refine condK_split (fun h => ?_) (fun h => ?_)
    · have hlt : k < ks.length := by simpa using h
      have hx := List.getElem_mem hlt
      have g0 := Typ.dsL_get ks k hlt
      have hd0 := Typ.ds_len ks[k]
      have ht0 : List.take 3 ks[k].ds = ks[k].ds := List.take_of_length_le (by omega)
      have ho0 : (ks[k].ds).all oneD = true := by rw [List.all_eq_true]; exact Typ.one ks[k]
      obtain ⟨a, b, hs, hab⟩ := hel ks[k] hx
      simp only [h, h5, e0, e1, e2, e3, g0, hd0, ht0, ho0, List.take_zero, List.nil_append, go_sem, ↓reduceIte, reduceCtorEq, reduceLT, reduceEqDiff, Nat.reduceBEq, reduceAdd, reduceMul, reduceSub, reduceLeDiff, reduceReplicate]
      refine callK_intro _ hs (by simp; exact Typ.cl _) ?_
      cases hq : gdT ks[k]
      · simp only [h5, e0, e1, e2, e3, hd0, ht0, ho0, List.take_zero, List.nil_append, go_sem, ↓reduceIte, reduceCtorEq, reduceLT, reduceEqDiff, Nat.reduceBEq, reduceAdd, reduceMul, reduceSub, reduceLeDiff, reduceReplicate]
        exact Fz.same rfl (by simp)
      obtain ⟨rfl, rfl⟩ := hab hq
      have hc1 := Typ.num_mem hx
      have hc2 := Typ.dep_le_num ks[k]
      have hc3 := Typ.numS_le ks (k + 1)
      rw [Typ.numS_take ks k hlt] at hc3
      have hc4 := Typ.depS_le_numS (ks.take k)
      have w1 := wrap_succ ks[k].dep (by omega)
      have w2 := wrap_add (1 + Typ.numS (ks.take k)) ks[k].num (by omega)
      simp only [h5, e0, e1, e2, e3, w1, w2, hd0, ht0, ho0, List.take_zero, List.nil_append, go_sem, ↓reduceIte, reduceCtorEq, reduceLT, reduceEqDiff, Nat.reduceBEq, reduceAdd, reduceMul, reduceSub, reduceLeDiff, reduceReplicate]
      have m1 : (if ((ks[k].dep + 1 : Nat) : Int) > ((1 + Typ.depS (ks.take k) : Nat) : Int) then ((ks[k].dep + 1 : Nat) : Int) else ((1 + Typ.depS (ks.take k) : Nat) : Int)) = ((1 + Typ.depS (ks.take (k + 1)) : Nat) : Int) := by
        rw [Typ.depS_take ks k hlt]; split <;> omega
      have m2 : 1 + Typ.numS (ks.take k) + ks[k].num = 1 + Typ.numS (ks.take (k + 1)) := by rw [Typ.numS_take ks k hlt]; omega
      refine nextC_mk (by simp [setE, wrap_succ k (by omega)]) hlt ⟨rfl, ?_, by rw [all_take_succ hlt, hp, hq]; rfl⟩
      simp only [e0, e1, m1, m2, Typ.sl, List.forall_mem_cons, List.not_mem_nil, false_implies, implies_true, setE, ↓reduceIte, Nat.reduceEqDiff, reduceCtorEq, and_true, true_and, and_self, eq_self]
    · have hk' : k = ks.length := by simp at h; omega
      subst hk'
      rw [List.take_length, hg] at hp
      cases hp
  refine ⟨(Typ.mk k0 nm ks).dep, (Typ.mk k0 nm ks).num, ?_, fun _ => ⟨rfl, rfl⟩⟩
  rw [hgd, hg, Bool.and_true, Typ.dep, Typ.num]
  refine Sp.of_vc [] [.tmp 2, .tmp 3, .tmp 4] Tryz.func107 rfl (by kernel_rfl) Tryz.ntmps107 rfl (by simp) ?_
  simp only [Typ.ds, hda, go_sem, ↓reduceIte, reduceCtorEq, reduceLT, reduceEqDiff, Nat.reduceBEq, reduceAdd, reduceMul, reduceSub, reduceLeDiff, reduceReplicate]
  refine loop_count 13 ks.length (fun k => Fw.Inv 87 [(1, .cp [I k0, S nm, .sl 3 (Typ.dsL ks)]), (11, Typ.sl ks), (12, I ks.length), (2, I ((1 + Typ.depS (ks.take k) : Nat) : Int)), (3, I ((1 + Typ.numS (ks.take k) : Nat) : Int)), (4, B false)] True) rfl ⟨rfl, by simp [Typ.sl, envOf, setE, Typ.depS, Typ.numS], trivial⟩ ?_
  rintro k ⟨env, H, n, nt, T⟩ hk h5 ⟨rfl, hfs, -⟩
  simp only [List.forall_mem_cons, Typ.sl] at h5 hfs
  obtain ⟨eb, e0, e1, e2, e3, e4, -⟩ := hfs
  simp only [h5, eb, e0, e1, e2, e3, hda, go_sem, ↓reduceIte, reduceCtorEq, reduceLT, reduceEqDiff, Nat.reduceBEq, reduceAdd, reduceMul, reduceSub, reduceLeDiff, reduceReplicate]
  refine condK_split (fun h => ?_) (fun h => ?_)
  · have hlt : k < ks.length := by simpa using h
    have hx := List.getElem_mem hlt
    have g0 := Typ.dsL_get ks k hlt
    have hd0 := Typ.ds_len ks[k]
    have ht0 : List.take 3 ks[k].ds = ks[k].ds := List.take_of_length_le (by omega)
    have ho0 : (ks[k].ds).all oneD = true := by rw [List.all_eq_true]; exact Typ.one ks[k]
    have hq : gdT ks[k] = true := List.all_eq_true.1 hg _ hx
    obtain ⟨a, b, hs, hab⟩ := hel ks[k] hx
    obtain ⟨rfl, rfl⟩ := hab hq
    rw [hq] at hs
    simp only [h, h5, e0, e1, e2, e3, g0, hd0, ht0, ho0, List.take_zero, List.nil_append, go_sem, ↓reduceIte, reduceCtorEq, reduceLT, reduceEqDiff, Nat.reduceBEq, reduceAdd, reduceMul, reduceSub, reduceLeDiff, reduceReplicate]
    refine callK_intro _ hs (by simp; exact Typ.cl _) ?_
    have hc1 := Typ.num_mem hx
    have hc2 := Typ.dep_le_num ks[k]
    have hc3 := Typ.numS_le ks (k + 1)
    rw [Typ.numS_take ks k hlt] at hc3
    have hc4 := Typ.depS_le_numS (ks.take k)
    have w1 := wrap_succ ks[k].dep (by omega)
    have w2 := wrap_add (1 + Typ.numS (ks.take k)) ks[k].num (by omega)
    simp only [h5, e0, e1, e2, e3, w1, w2, hd0, ht0, ho0, List.take_zero, List.nil_append, go_sem, ↓reduceIte, reduceCtorEq, reduceLT, reduceEqDiff, Nat.reduceBEq, reduceAdd, reduceMul, reduceSub, reduceLeDiff, reduceReplicate]
    have m1 : (if ((ks[k].dep + 1 : Nat) : Int) > ((1 + Typ.depS (ks.take k) : Nat) : Int) then ((ks[k].dep + 1 : Nat) : Int) else ((1 + Typ.depS (ks.take k) : Nat) : Int)) = ((1 + Typ.depS (ks.take (k + 1)) : Nat) : Int) := by
      rw [Typ.depS_take ks k hlt]; split <;> omega
    have m2 : 1 + Typ.numS (ks.take k) + ks[k].num = 1 + Typ.numS (ks.take (k + 1)) := by rw [Typ.numS_take ks k hlt]; omega
    refine nextC_mk (by simp [setE, wrap_succ k (by omega)]) hlt ⟨rfl, ?_, trivial⟩
    simp only [eb, e0, e1, e4, m1, m2, Typ.sl, List.forall_mem_cons, List.not_mem_nil, false_implies, implies_true, setE, ↓reduceIte, Nat.reduceEqDiff, reduceCtorEq, and_true, true_and, and_self, eq_self]
  have hk' : k = ks.length := by simp at h; omega
  subst hk'
  rw [List.take_length] at e2 e3
  simp only [h, go_sem, ↓reduceIte, reduceCtorEq, reduceLT, reduceEqDiff, Nat.reduceBEq, reduceAdd, reduceMul, reduceSub, reduceLeDiff, reduceReplicate]
  clear h5 hel hb hg
  by_cases c1 : k0 = 1
  · have f1 : (k0 == 1) = true := by simp [c1]
    have hL : ((ks.length : Int) == 0) = decide (ks.length = 0) := by rw [int_beq, decide_eq_decide]; omega
    have ht : tyNode (.mk k0 nm ks) = (decide (nm = nE) && decide (ks.length = 0)) := by simp [tyNode, c1]
    rw [ht]
    simp only [f1, eb, hda, go_sem, ↓reduceIte, reduceCtorEq, reduceLT, reduceEqDiff, Nat.reduceBEq, reduceAdd, reduceMul, reduceSub, reduceLeDiff, reduceReplicate]
    by_cases d1 : nm = nE
    · have g1 : (nm.toList == (⟨#[]⟩ : ByteArray).toList) = true := by rw [bytes_eq]; exact decide_eq_true d1
      simp only [g1, eb, e2, e3, hda, go_sem, ↓reduceIte, reduceCtorEq, reduceLT, reduceEqDiff, Nat.reduceBEq, reduceAdd, reduceMul, reduceSub, reduceLeDiff, reduceReplicate]
      exact Fz.same (by simp only [decide_eq_true d1, Bool.true_and, Bool.not_false, hL]) (by simp)
    · have g1 : (nm.toList == (⟨#[]⟩ : ByteArray).toList) = false := by rw [bytes_eq]; exact decide_eq_false d1
      simp only [g1, eb, e2, e3, hda, go_sem, ↓reduceIte, reduceCtorEq, reduceLT, reduceEqDiff, Nat.reduceBEq, reduceAdd, reduceMul, reduceSub, reduceLeDiff, reduceReplicate]
      exact Fz.same (by simp only [decide_eq_false d1, Bool.false_and]) (by simp)
  have f1 : (k0 == 1) = false := by simp [c1]
  by_cases c2 : k0 = 2
  · have f2 : (k0 == 2) = true := by simp [c2]
    have hL : ((ks.length : Int) == 0) = decide (ks.length = 0) := by rw [int_beq, decide_eq_decide]; omega
    have ht : tyNode (.mk k0 nm ks) = (upB nm && !decide (nm = nInt) && decide (ks.length = 0)) := by simp [tyNode, c2]
    rw [ht]
    simp only [f1, f2, eb, hda, go_sem, ↓reduceIte, reduceCtorEq, reduceLT, reduceEqDiff, Nat.reduceBEq, reduceAdd, reduceMul, reduceSub, reduceLeDiff, reduceReplicate]
    refine callK_intro _ (isUpper nm hn) (by simp) ?_
    cases d0 : upB nm
    · simp only [eb, e2, e3, hda, go_sem, ↓reduceIte, reduceCtorEq, reduceLT, reduceEqDiff, Nat.reduceBEq, reduceAdd, reduceMul, reduceSub, reduceLeDiff, reduceReplicate]
      exact Fz.same (by simp) (by simp)
    simp only [eb, hda, go_sem, ↓reduceIte, reduceCtorEq, reduceLT, reduceEqDiff, Nat.reduceBEq, reduceAdd, reduceMul, reduceSub, reduceLeDiff, reduceReplicate]
    by_cases d1 : nm = nInt
    · have g1 : (nm.toList == (⟨#[73, 110, 116]⟩ : ByteArray).toList) = true := by rw [bytes_eq]; exact decide_eq_true d1
      simp only [g1, eb, e2, e3, hda, go_sem, ↓reduceIte, reduceCtorEq, reduceLT, reduceEqDiff, Nat.reduceBEq, reduceAdd, reduceMul, reduceSub, reduceLeDiff, reduceReplicate]
      exact Fz.same (by simp [d1]) (by simp)
    · have g1 : (nm.toList == (⟨#[73, 110, 116]⟩ : ByteArray).toList) = false := by rw [bytes_eq]; exact decide_eq_false d1
      simp only [g1, eb, e2, e3, hda, go_sem, ↓reduceIte, reduceCtorEq, reduceLT, reduceEqDiff, Nat.reduceBEq, reduceAdd, reduceMul, reduceSub, reduceLeDiff, reduceReplicate]
      exact Fz.same (by simp only [decide_eq_false d1, Bool.true_and, Bool.not_false, hL]) (by simp)
  have f2 : (k0 == 2) = false := by simp [c2]
  by_cases c3 : k0 = 3
  · have f3 : (k0 == 3) = true := by simp [c3]
    have hL : ((ks.length : Int) == 2) = decide (ks.length = 2) := by rw [int_beq, decide_eq_decide]; omega
    have ht : tyNode (.mk k0 nm ks) = (decide (nm = nE) && decide (ks.length = 2)) := by simp [tyNode, c3]
    rw [ht]
    simp only [f1, f2, f3, eb, hda, go_sem, ↓reduceIte, reduceCtorEq, reduceLT, reduceEqDiff, Nat.reduceBEq, reduceAdd, reduceMul, reduceSub, reduceLeDiff, reduceReplicate]
    by_cases d1 : nm = nE
    · have g1 : (nm.toList == (⟨#[]⟩ : ByteArray).toList) = true := by rw [bytes_eq]; exact decide_eq_true d1
      simp only [g1, eb, e2, e3, hda, go_sem, ↓reduceIte, reduceCtorEq, reduceLT, reduceEqDiff, Nat.reduceBEq, reduceAdd, reduceMul, reduceSub, reduceLeDiff, reduceReplicate]
      exact Fz.same (by simp only [decide_eq_true d1, Bool.true_and, Bool.not_false, hL]) (by simp)
    · have g1 : (nm.toList == (⟨#[]⟩ : ByteArray).toList) = false := by rw [bytes_eq]; exact decide_eq_false d1
      simp only [g1, eb, e2, e3, hda, go_sem, ↓reduceIte, reduceCtorEq, reduceLT, reduceEqDiff, Nat.reduceBEq, reduceAdd, reduceMul, reduceSub, reduceLeDiff, reduceReplicate]
      exact Fz.same (by simp only [decide_eq_false d1, Bool.false_and]) (by simp)
  have f3 : (k0 == 3) = false := by simp [c3]
  by_cases c4 : k0 = 4
  · have f4 : (k0 == 4) = true := by simp [c4]
    have hL : ((ks.length : Int) == 1) = decide (ks.length = 1) := by rw [int_beq, decide_eq_decide]; omega
    have ht : tyNode (.mk k0 nm ks) = (decide (nm = nE) && decide (ks.length = 1)) := by simp [tyNode, c4]
    rw [ht]
    simp only [f1, f2, f3, f4, eb, hda, go_sem, ↓reduceIte, reduceCtorEq, reduceLT, reduceEqDiff, Nat.reduceBEq, reduceAdd, reduceMul, reduceSub, reduceLeDiff, reduceReplicate]
    by_cases d1 : nm = nE
    · have g1 : (nm.toList == (⟨#[]⟩ : ByteArray).toList) = true := by rw [bytes_eq]; exact decide_eq_true d1
      simp only [g1, eb, e2, e3, hda, go_sem, ↓reduceIte, reduceCtorEq, reduceLT, reduceEqDiff, Nat.reduceBEq, reduceAdd, reduceMul, reduceSub, reduceLeDiff, reduceReplicate]
      exact Fz.same (by simp only [decide_eq_true d1, Bool.true_and, Bool.not_false, hL]) (by simp)
    · have g1 : (nm.toList == (⟨#[]⟩ : ByteArray).toList) = false := by rw [bytes_eq]; exact decide_eq_false d1
      simp only [g1, eb, e2, e3, hda, go_sem, ↓reduceIte, reduceCtorEq, reduceLT, reduceEqDiff, Nat.reduceBEq, reduceAdd, reduceMul, reduceSub, reduceLeDiff, reduceReplicate]
      exact Fz.same (by simp only [decide_eq_false d1, Bool.false_and]) (by simp)
  have f4 : (k0 == 4) = false := by simp [c4]
  have ht : tyNode (.mk k0 nm ks) = false := by simp [tyNode, c1, c2, c3, c4]
  rw [ht]
  simp only [f1, f2, f3, f4, e2, e3, e4, eb, hda, go_sem, ↓reduceIte, reduceCtorEq, reduceLT, reduceEqDiff, Nat.reduceBEq, reduceAdd, reduceMul, reduceSub, reduceLeDiff, reduceReplicate]
  exact Fz.same rfl (by simp)
theorem typeShape (t : Typ) (hs : t.sz ≤ 1048576) (ho : t.ok) : ∃ a b, Sp Tryz.prog 107 [.ag t.ds] (.tp [I a, I b, B (gdT t)]) ∧ (gdT t = true → a = t.dep ∧ b = t.num) := by
  match t, hs, ho with
  | .mk k n ks, hs, ho =>
  simp only [Typ.ok] at ho
  simp only [Typ.sz] at hs
  have hb := Typ.numS_le_szS ks
  exact typeShape_step k n ks ho.1 (by omega) ho.2.1 fun x hx => typeShape x (by have := Typ.sz_mem hx; omega) (Typ.okS_mem ho.2.2 x hx)
termination_by t
decreasing_by all_goals (have := List.sizeOf_lt_of_mem hx; simp; omega)
theorem validType (t : Typ) (hs : t.sz ≤ 1048576) (ho : t.ok) : Sp Tryz.prog 68 [.ag t.ds] (B (tyF t)) := by
  have hd0 := Typ.ds_len t
  have ht0 : List.take 3 t.ds = t.ds := List.take_of_length_le (by omega)
  have ho0 : (t.ds).all oneD = true := by rw [List.all_eq_true]; exact Typ.one t
  obtain ⟨a, b, h1, h2⟩ := typeShape t hs ho
  refine Sp.of_vc [] [.tmp 2] Tryz.func68 rfl (by kernel_rfl) Tryz.ntmps68 rfl (by simp) ?_
  simp only [hd0, ht0, ho0, List.take_zero, List.nil_append, go_sem, ↓reduceIte, reduceCtorEq, reduceLT, reduceEqDiff, Nat.reduceBEq, reduceAdd, reduceMul, reduceSub, reduceLeDiff, reduceReplicate]
  refine callK_intro _ h1 (by simp; exact Typ.cl _) ?_
  cases hg : gdT t
  · simp only [go_sem, ↓reduceIte, reduceCtorEq, reduceLT, reduceEqDiff, Nat.reduceBEq, reduceAdd, reduceMul, reduceSub, reduceLeDiff, reduceReplicate]
    exact Fz.bool (by simp only [tyF, hg, Bool.false_and])
  obtain ⟨rfl, rfl⟩ := h2 hg
  simp only [go_sem, ↓reduceIte, reduceCtorEq, reduceLT, reduceEqDiff, Nat.reduceBEq, reduceAdd, reduceMul, reduceSub, reduceLeDiff, reduceReplicate]
  by_cases c1 : t.dep ≤ 6
  · have f1 : decide ((t.dep : Int) ≤ 6) = true := by simp; omega
    simp only [f1, go_sem, ↓reduceIte, reduceCtorEq, reduceLT, reduceEqDiff, Nat.reduceBEq, reduceAdd, reduceMul, reduceSub, reduceLeDiff, reduceReplicate]
    refine Fz.bool ?_
    rw [tyF, hg, Bool.true_and, decide_eq_decide]
    omega
  · have f1 : decide ((t.dep : Int) ≤ 6) = false := by simp; omega
    simp only [f1, go_sem, ↓reduceIte, reduceCtorEq, reduceLT, reduceEqDiff, Nat.reduceBEq, reduceAdd, reduceMul, reduceSub, reduceLeDiff, reduceReplicate]
    exact Fz.bool (by simp [tyF, c1])
def tyN (t : Typ) (d : Int) : Int := if gdT t = true ∧ (t.dep : Int) ≤ d then t.num else -1
theorem tyN_bad {k : Int} {n : ByteArray} {ks : List Typ} {d : Int} (h : tyNode (.mk k n ks) = false) : -1 = tyN (.mk k n ks) d := by
  unfold tyN; rw [if_neg]; rintro ⟨h1, _⟩; rw [gdT, Typ.good, h] at h1; cases h1
theorem l02Nodes_step (k0 : Int) (nm : ByteArray) (ks : List Typ) (a : Int) (ha0 : 0 ≤ a) (ha : a ≤ 6) (hn : nm.size ≤ maxLen) (hb : Typ.numS ks < 9000000000000000000) (hl : ks.length ≤ maxLen)
    (hel : ∀ x ∈ ks, ∀ a : Int, 0 ≤ a → a ≤ 6 → Sp Tryz.prog 99 [.ag x.ds, I a] (I (tyN x a))) :
    Sp Tryz.prog 99 [.ag (Typ.ds (.mk k0 nm ks)), I a] (I (tyN (.mk k0 nm ks) a)) := by
  unfold maxLen at hl
  have hda : (Typ.dsL ks).length = ks.length := Typ.dsL_len ks
  have hgd : gdT (.mk k0 nm ks) = (tyNode (.mk k0 nm ks) && ks.all gdT) := by rw [gdT, Typ.good, Typ.goodS_eq]
  have hdp : (Typ.mk k0 nm ks).dep = 1 + Typ.depS ks := by rw [Typ.dep]
  have hcn : (Typ.mk k0 nm ks).num = 1 + Typ.numS ks := by rw [Typ.num]
  refine Sp.of_vc [] [.tmp 4] Tryz.func99 rfl (by kernel_rfl) Tryz.ntmps99 rfl (by simp) ?_
  simp only [Typ.ds, hda, go_sem, ↓reduceIte, reduceCtorEq, reduceLT, reduceEqDiff, Nat.reduceBEq, reduceAdd, reduceMul, reduceSub, reduceLeDiff, reduceReplicate]
  by_cases c0 : a < 1
  · simp only [decide_eq_true c0, go_sem, ↓reduceIte, reduceCtorEq, reduceLT, reduceEqDiff, Nat.reduceBEq, reduceAdd, reduceMul, reduceSub, reduceLeDiff, reduceReplicate]
    refine Fz.int ?_
    unfold tyN; rw [if_neg]; rintro ⟨_, h⟩; rw [hdp] at h; omega
  simp only [decide_eq_false c0, go_sem, ↓reduceIte, reduceCtorEq, reduceLT, reduceEqDiff, Nat.reduceBEq, reduceAdd, reduceMul, reduceSub, reduceLeDiff, reduceReplicate]
  by_cases c1 : k0 = 1
  · have f1 : (k0 == 1) = true := by simp [c1]
    have z2 : (k0 != 2) = true := by simp [c1]
    have ht : tyNode (.mk k0 nm ks) = (decide (nm = nE) && decide (ks.length = 0)) := by simp [tyNode, c1]
    simp only [f1, hda, go_sem, ↓reduceIte, reduceCtorEq, reduceLT, reduceEqDiff, Nat.reduceBEq, reduceAdd, reduceMul, reduceSub, reduceLeDiff, reduceReplicate]
    by_cases d2 : ks.length = 0
    case neg =>
      have g2 : ((ks.length : Int) != 0) = true := bne_t (by omega)
      simp only [g2, hda, go_sem, ↓reduceIte, reduceCtorEq, reduceLT, reduceEqDiff, Nat.reduceBEq, reduceAdd, reduceMul, reduceSub, reduceLeDiff, reduceReplicate]
      exact Fz.int (tyN_bad (by rw [ht]; simp [d2]))
    have g2 : ((ks.length : Int) != 0) = false := bne_f (by omega)
    simp only [g2, z2, hda, go_sem, ↓reduceIte, reduceCtorEq, reduceLT, reduceEqDiff, Nat.reduceBEq, reduceAdd, reduceMul, reduceSub, reduceLeDiff, reduceReplicate]
    by_cases d1 : nm = nE
    case neg =>
      have g1 : (nm.toList == (⟨#[]⟩ : ByteArray).toList) = false := by rw [bytes_eq]; exact decide_eq_false d1
      simp only [g1, hda, go_sem, ↓reduceIte, reduceCtorEq, reduceLT, reduceEqDiff, Nat.reduceBEq, reduceAdd, reduceMul, reduceSub, reduceLeDiff, reduceReplicate]
      exact Fz.int (tyN_bad (by rw [ht]; simp [d1]))
    have g1 : (nm.toList == (⟨#[]⟩ : ByteArray).toList) = true := by rw [bytes_eq]; exact decide_eq_true d1
    simp only [g1, hda, go_sem, ↓reduceIte, reduceCtorEq, reduceLT, reduceEqDiff, Nat.reduceBEq, reduceAdd, reduceMul, reduceSub, reduceLeDiff, reduceReplicate]
    have hn' : tyNode (.mk k0 nm ks) = true := by rw [ht]; simp [d1, d2]
    refine loop_count 7 ks.length (fun k => Fw.Inv 66 [(2, .cp [I k0, S nm, .sl 3 (Typ.dsL ks)]), (1, I a), (6, I ((1 + Typ.numS (ks.take k) : Nat) : Int))] ((ks.take k).all gdT = true ∧ ((1 + Typ.depS (ks.take k) : Nat) : Int) ≤ a)) rfl ⟨rfl, ?_, ?_⟩ ?_
    · simp only [List.take_zero, Typ.numS, envOf, List.getD_cons_zero, List.getD_cons_succ, List.forall_mem_cons, List.not_mem_nil, false_implies, implies_true, setE, ↓reduceIte, Nat.reduceEqDiff, reduceCtorEq, and_true, true_and, and_self, eq_self]; rfl
    · simp [Typ.depS]; omega
    rintro k ⟨env, H, n, nt, T⟩ hk h5 ⟨rfl, hfs, hp, hp2⟩
    simp only [List.forall_mem_cons] at h5 hfs
    obtain ⟨e0, e1, e2, -⟩ := hfs
    simp only [h5, e0, e1, e2, hda, go_sem, ↓reduceIte, reduceCtorEq, reduceLT, reduceEqDiff, Nat.reduceBEq, reduceAdd, reduceMul, reduceSub, reduceLeDiff, reduceReplicate]
    refine condK_split (fun h => ?_) (fun h => ?_)
    · have hlt : k < ks.length := by simpa using h
      have hx := List.getElem_mem hlt
      have g0 := Typ.dsL_get ks k hlt
      have hd0 := Typ.ds_len ks[k]
      have ht0 : List.take 3 ks[k].ds = ks[k].ds := List.take_of_length_le (by omega)
      have ho0 : (ks[k].ds).all oneD = true := by rw [List.all_eq_true]; exact Typ.one ks[k]
      have w1 : IntKind.i64.wrap (a - 1) = a - 1 := Go.IntWalk.i64_in _ (by omega)
      simp only [h, h5, e0, e1, e2, g0, w1, hd0, ht0, ho0, List.take_zero, List.nil_append, hda, go_sem, ↓reduceIte, reduceCtorEq, reduceLT, reduceEqDiff, Nat.reduceBEq, reduceAdd, reduceMul, reduceSub, reduceLeDiff, reduceReplicate]
      refine callK_intro _ (hel ks[k] hx (a - 1) (by omega) (by omega)) (by simp; exact Typ.cl _) ?_
      have hc3 := Typ.numS_le ks (k + 1)
      rw [Typ.numS_take ks k hlt] at hc3
      have hd3 := Typ.depS_le ks (k + 1)
      rw [Typ.depS_take ks k hlt] at hd3
      by_cases hq : gdT ks[k] = true ∧ (ks[k].dep : Int) ≤ a - 1
      · have hr : tyN ks[k] (a - 1) = ks[k].num := by unfold tyN; rw [if_pos hq]
        have hr2 : decide ((ks[k].num : Int) < 0) = false := by simp
        have w3 := wrap_add (1 + Typ.numS (ks.take k)) ks[k].num (by omega)
        have m2 : 1 + Typ.numS (ks.take k) + ks[k].num = 1 + Typ.numS (ks.take (k + 1)) := by rw [Typ.numS_take ks k hlt]; omega
        simp only [hr, hr2, h5, e0, e1, e2, w3, go_sem, ↓reduceIte, reduceCtorEq, reduceLT, reduceEqDiff, Nat.reduceBEq, reduceAdd, reduceMul, reduceSub, reduceLeDiff, reduceReplicate]
        refine nextC_mk (by simp [setE, wrap_succ k (by omega)]) hlt ⟨rfl, ?_, by rw [all_take_succ hlt, hp, hq.1]; rfl, by rw [Typ.depS_take ks k hlt]; omega⟩
        simp only [e0, e1, m2, List.forall_mem_cons, List.not_mem_nil, false_implies, implies_true, setE, ↓reduceIte, Nat.reduceEqDiff, reduceCtorEq, and_true, true_and, and_self, eq_self]
      · have hr : tyN ks[k] (a - 1) = -1 := by unfold tyN; rw [if_neg hq]
        have hr2 : decide ((-1 : Int) < 0) = true := rfl
        simp only [hr, hr2, go_sem, ↓reduceIte, reduceCtorEq, reduceLT, reduceEqDiff, Nat.reduceBEq, reduceAdd, reduceMul, reduceSub, reduceLeDiff, reduceReplicate]
        refine Fz.int ?_
        unfold tyN
        rw [if_neg]
        rintro ⟨q1, q2⟩
        rw [hgd, hn', Bool.true_and, List.all_eq_true] at q1
        have := Typ.dep_mem hx
        exact hq ⟨q1 _ hx, by omega⟩
    · have hk' : k = ks.length := by simp at h; omega
      subst hk'
      rw [List.take_length] at hp hp2 e2
      simp only [h, e2, go_sem, ↓reduceIte, reduceCtorEq, reduceLT, reduceEqDiff, Nat.reduceBEq, reduceAdd, reduceMul, reduceSub, reduceLeDiff, reduceReplicate]
      refine Fz.int ?_
      unfold tyN
      rw [if_pos ⟨by rw [hgd, hn', hp]; rfl, by rw [hdp]; exact hp2⟩, hcn]
  by_cases c2 : k0 = 2
  · have f2 : (k0 == 2) = true := by simp [c2]
    have z2 : (k0 != 2) = false := by simp [c2]
    have ht : tyNode (.mk k0 nm ks) = (upB nm && !decide (nm = nInt) && decide (ks.length = 0)) := by simp [tyNode, c2]
    have f1 : (k0 == 1) = false := by simp [c1]
    simp only [f1, f2, hda, go_sem, ↓reduceIte, reduceCtorEq, reduceLT, reduceEqDiff, Nat.reduceBEq, reduceAdd, reduceMul, reduceSub, reduceLeDiff, reduceReplicate]
    refine callK_intro _ (specIsUpper nm hn) (by simp) ?_
    cases d0 : upB nm
    · simp only [hda, go_sem, ↓reduceIte, reduceCtorEq, reduceLT, reduceEqDiff, Nat.reduceBEq, reduceAdd, reduceMul, reduceSub, reduceLeDiff, reduceReplicate]
      exact Fz.int (tyN_bad (by rw [ht, d0]; rfl))
    simp only [hda, go_sem, ↓reduceIte, reduceCtorEq, reduceLT, reduceEqDiff, Nat.reduceBEq, reduceAdd, reduceMul, reduceSub, reduceLeDiff, reduceReplicate]
    by_cases d1 : nm = nInt
    · have g1 : (nm.toList == (⟨#[73, 110, 116]⟩ : ByteArray).toList) = true := by rw [bytes_eq]; exact decide_eq_true d1
      simp only [g1, hda, go_sem, ↓reduceIte, reduceCtorEq, reduceLT, reduceEqDiff, Nat.reduceBEq, reduceAdd, reduceMul, reduceSub, reduceLeDiff, reduceReplicate]
      exact Fz.int (tyN_bad (by rw [ht]; simp [d1]))
    have g1 : (nm.toList == (⟨#[73, 110, 116]⟩ : ByteArray).toList) = false := by rw [bytes_eq]; exact decide_eq_false d1
    simp only [g1, hda, go_sem, ↓reduceIte, reduceCtorEq, reduceLT, reduceEqDiff, Nat.reduceBEq, reduceAdd, reduceMul, reduceSub, reduceLeDiff, reduceReplicate]
    by_cases d2 : ks.length = 0
    case neg =>
      have g2 : ((ks.length : Int) != 0) = true := bne_t (by omega)
      simp only [g2, hda, go_sem, ↓reduceIte, reduceCtorEq, reduceLT, reduceEqDiff, Nat.reduceBEq, reduceAdd, reduceMul, reduceSub, reduceLeDiff, reduceReplicate]
      exact Fz.int (tyN_bad (by rw [ht]; simp [d2]))
    have g2 : ((ks.length : Int) != 0) = false := bne_f (by omega)
    simp only [g2, z2, hda, go_sem, ↓reduceIte, reduceCtorEq, reduceLT, reduceEqDiff, Nat.reduceBEq, reduceAdd, reduceMul, reduceSub, reduceLeDiff, reduceReplicate]
    have hn' : tyNode (.mk k0 nm ks) = true := by rw [ht]; simp [d0, d1, d2]
    refine loop_count 7 ks.length (fun k => Fw.Inv 66 [(2, .cp [I k0, S nm, .sl 3 (Typ.dsL ks)]), (1, I a), (6, I ((1 + Typ.numS (ks.take k) : Nat) : Int))] ((ks.take k).all gdT = true ∧ ((1 + Typ.depS (ks.take k) : Nat) : Int) ≤ a)) rfl ⟨rfl, ?_, ?_⟩ ?_
    · simp only [List.take_zero, Typ.numS, envOf, List.getD_cons_zero, List.getD_cons_succ, List.forall_mem_cons, List.not_mem_nil, false_implies, implies_true, setE, ↓reduceIte, Nat.reduceEqDiff, reduceCtorEq, and_true, true_and, and_self, eq_self]; rfl
    · simp [Typ.depS]; omega
    rintro k ⟨env, H, n, nt, T⟩ hk h5 ⟨rfl, hfs, hp, hp2⟩
    simp only [List.forall_mem_cons] at h5 hfs
    obtain ⟨e0, e1, e2, -⟩ := hfs
    simp only [h5, e0, e1, e2, hda, go_sem, ↓reduceIte, reduceCtorEq, reduceLT, reduceEqDiff, Nat.reduceBEq, reduceAdd, reduceMul, reduceSub, reduceLeDiff, reduceReplicate]
    refine condK_split (fun h => ?_) (fun h => ?_)
    · have hlt : k < ks.length := by simpa using h
      have hx := List.getElem_mem hlt
      have g0 := Typ.dsL_get ks k hlt
      have hd0 := Typ.ds_len ks[k]
      have ht0 : List.take 3 ks[k].ds = ks[k].ds := List.take_of_length_le (by omega)
      have ho0 : (ks[k].ds).all oneD = true := by rw [List.all_eq_true]; exact Typ.one ks[k]
      have w1 : IntKind.i64.wrap (a - 1) = a - 1 := Go.IntWalk.i64_in _ (by omega)
      simp only [h, h5, e0, e1, e2, g0, w1, hd0, ht0, ho0, List.take_zero, List.nil_append, hda, go_sem, ↓reduceIte, reduceCtorEq, reduceLT, reduceEqDiff, Nat.reduceBEq, reduceAdd, reduceMul, reduceSub, reduceLeDiff, reduceReplicate]
      refine callK_intro _ (hel ks[k] hx (a - 1) (by omega) (by omega)) (by simp; exact Typ.cl _) ?_
      have hc3 := Typ.numS_le ks (k + 1)
      rw [Typ.numS_take ks k hlt] at hc3
      have hd3 := Typ.depS_le ks (k + 1)
      rw [Typ.depS_take ks k hlt] at hd3
      by_cases hq : gdT ks[k] = true ∧ (ks[k].dep : Int) ≤ a - 1
      · have hr : tyN ks[k] (a - 1) = ks[k].num := by unfold tyN; rw [if_pos hq]
        have hr2 : decide ((ks[k].num : Int) < 0) = false := by simp
        have w3 := wrap_add (1 + Typ.numS (ks.take k)) ks[k].num (by omega)
        have m2 : 1 + Typ.numS (ks.take k) + ks[k].num = 1 + Typ.numS (ks.take (k + 1)) := by rw [Typ.numS_take ks k hlt]; omega
        simp only [hr, hr2, h5, e0, e1, e2, w3, go_sem, ↓reduceIte, reduceCtorEq, reduceLT, reduceEqDiff, Nat.reduceBEq, reduceAdd, reduceMul, reduceSub, reduceLeDiff, reduceReplicate]
        refine nextC_mk (by simp [setE, wrap_succ k (by omega)]) hlt ⟨rfl, ?_, by rw [all_take_succ hlt, hp, hq.1]; rfl, by rw [Typ.depS_take ks k hlt]; omega⟩
        simp only [e0, e1, m2, List.forall_mem_cons, List.not_mem_nil, false_implies, implies_true, setE, ↓reduceIte, Nat.reduceEqDiff, reduceCtorEq, and_true, true_and, and_self, eq_self]
      · have hr : tyN ks[k] (a - 1) = -1 := by unfold tyN; rw [if_neg hq]
        have hr2 : decide ((-1 : Int) < 0) = true := rfl
        simp only [hr, hr2, go_sem, ↓reduceIte, reduceCtorEq, reduceLT, reduceEqDiff, Nat.reduceBEq, reduceAdd, reduceMul, reduceSub, reduceLeDiff, reduceReplicate]
        refine Fz.int ?_
        unfold tyN
        rw [if_neg]
        rintro ⟨q1, q2⟩
        rw [hgd, hn', Bool.true_and, List.all_eq_true] at q1
        have := Typ.dep_mem hx
        exact hq ⟨q1 _ hx, by omega⟩
    · have hk' : k = ks.length := by simp at h; omega
      subst hk'
      rw [List.take_length] at hp hp2 e2
      simp only [h, e2, go_sem, ↓reduceIte, reduceCtorEq, reduceLT, reduceEqDiff, Nat.reduceBEq, reduceAdd, reduceMul, reduceSub, reduceLeDiff, reduceReplicate]
      refine Fz.int ?_
      unfold tyN
      rw [if_pos ⟨by rw [hgd, hn', hp]; rfl, by rw [hdp]; exact hp2⟩, hcn]
  by_cases c3 : k0 = 3
  · have f3 : (k0 == 3) = true := by simp [c3]
    have z2 : (k0 != 2) = true := by simp [c3]
    have ht : tyNode (.mk k0 nm ks) = (decide (nm = nE) && decide (ks.length = 2)) := by simp [tyNode, c3]
    have f1 : (k0 == 1) = false := by simp [c1]
    have f2 : (k0 == 2) = false := by simp [c2]
    simp only [f1, f2, f3, hda, go_sem, ↓reduceIte, reduceCtorEq, reduceLT, reduceEqDiff, Nat.reduceBEq, reduceAdd, reduceMul, reduceSub, reduceLeDiff, reduceReplicate]
    by_cases d2 : ks.length = 2
    case neg =>
      have g2 : ((ks.length : Int) != 2) = true := bne_t (by omega)
      simp only [g2, hda, go_sem, ↓reduceIte, reduceCtorEq, reduceLT, reduceEqDiff, Nat.reduceBEq, reduceAdd, reduceMul, reduceSub, reduceLeDiff, reduceReplicate]
      exact Fz.int (tyN_bad (by rw [ht]; simp [d2]))
    have g2 : ((ks.length : Int) != 2) = false := bne_f (by omega)
    simp only [g2, z2, hda, go_sem, ↓reduceIte, reduceCtorEq, reduceLT, reduceEqDiff, Nat.reduceBEq, reduceAdd, reduceMul, reduceSub, reduceLeDiff, reduceReplicate]
    by_cases d1 : nm = nE
    case neg =>
      have g1 : (nm.toList == (⟨#[]⟩ : ByteArray).toList) = false := by rw [bytes_eq]; exact decide_eq_false d1
      simp only [g1, hda, go_sem, ↓reduceIte, reduceCtorEq, reduceLT, reduceEqDiff, Nat.reduceBEq, reduceAdd, reduceMul, reduceSub, reduceLeDiff, reduceReplicate]
      exact Fz.int (tyN_bad (by rw [ht]; simp [d1]))
    have g1 : (nm.toList == (⟨#[]⟩ : ByteArray).toList) = true := by rw [bytes_eq]; exact decide_eq_true d1
    simp only [g1, hda, go_sem, ↓reduceIte, reduceCtorEq, reduceLT, reduceEqDiff, Nat.reduceBEq, reduceAdd, reduceMul, reduceSub, reduceLeDiff, reduceReplicate]
    have hn' : tyNode (.mk k0 nm ks) = true := by rw [ht]; simp [d1, d2]
    refine loop_count 7 ks.length (fun k => Fw.Inv 66 [(2, .cp [I k0, S nm, .sl 3 (Typ.dsL ks)]), (1, I a), (6, I ((1 + Typ.numS (ks.take k) : Nat) : Int))] ((ks.take k).all gdT = true ∧ ((1 + Typ.depS (ks.take k) : Nat) : Int) ≤ a)) rfl ⟨rfl, ?_, ?_⟩ ?_
    · simp only [List.take_zero, Typ.numS, envOf, List.getD_cons_zero, List.getD_cons_succ, List.forall_mem_cons, List.not_mem_nil, false_implies, implies_true, setE, ↓reduceIte, Nat.reduceEqDiff, reduceCtorEq, and_true, true_and, and_self, eq_self]; rfl
    · simp [Typ.depS]; omega
    rintro k ⟨env, H, n, nt, T⟩ hk h5 ⟨rfl, hfs, hp, hp2⟩
    simp only [List.forall_mem_cons] at h5 hfs
    obtain ⟨e0, e1, e2, -⟩ := hfs
    simp only [h5, e0, e1, e2, hda, go_sem, ↓reduceIte, reduceCtorEq, reduceLT, reduceEqDiff, Nat.reduceBEq, reduceAdd, reduceMul, reduceSub, reduceLeDiff, reduceReplicate]
    refine condK_split (fun h => ?_) (fun h => ?_)
    · have hlt : k < ks.length := by simpa using h
      have hx := List.getElem_mem hlt
      have g0 := Typ.dsL_get ks k hlt
      have hd0 := Typ.ds_len ks[k]
      have ht0 : List.take 3 ks[k].ds = ks[k].ds := List.take_of_length_le (by omega)
      have ho0 : (ks[k].ds).all oneD = true := by rw [List.all_eq_true]; exact Typ.one ks[k]
      have w1 : IntKind.i64.wrap (a - 1) = a - 1 := Go.IntWalk.i64_in _ (by omega)
      simp only [h, h5, e0, e1, e2, g0, w1, hd0, ht0, ho0, List.take_zero, List.nil_append, hda, go_sem, ↓reduceIte, reduceCtorEq, reduceLT, reduceEqDiff, Nat.reduceBEq, reduceAdd, reduceMul, reduceSub, reduceLeDiff, reduceReplicate]
      refine callK_intro _ (hel ks[k] hx (a - 1) (by omega) (by omega)) (by simp; exact Typ.cl _) ?_
      have hc3 := Typ.numS_le ks (k + 1)
      rw [Typ.numS_take ks k hlt] at hc3
      have hd3 := Typ.depS_le ks (k + 1)
      rw [Typ.depS_take ks k hlt] at hd3
      by_cases hq : gdT ks[k] = true ∧ (ks[k].dep : Int) ≤ a - 1
      · have hr : tyN ks[k] (a - 1) = ks[k].num := by unfold tyN; rw [if_pos hq]
        have hr2 : decide ((ks[k].num : Int) < 0) = false := by simp
        have w3 := wrap_add (1 + Typ.numS (ks.take k)) ks[k].num (by omega)
        have m2 : 1 + Typ.numS (ks.take k) + ks[k].num = 1 + Typ.numS (ks.take (k + 1)) := by rw [Typ.numS_take ks k hlt]; omega
        simp only [hr, hr2, h5, e0, e1, e2, w3, go_sem, ↓reduceIte, reduceCtorEq, reduceLT, reduceEqDiff, Nat.reduceBEq, reduceAdd, reduceMul, reduceSub, reduceLeDiff, reduceReplicate]
        refine nextC_mk (by simp [setE, wrap_succ k (by omega)]) hlt ⟨rfl, ?_, by rw [all_take_succ hlt, hp, hq.1]; rfl, by rw [Typ.depS_take ks k hlt]; omega⟩
        simp only [e0, e1, m2, List.forall_mem_cons, List.not_mem_nil, false_implies, implies_true, setE, ↓reduceIte, Nat.reduceEqDiff, reduceCtorEq, and_true, true_and, and_self, eq_self]
      · have hr : tyN ks[k] (a - 1) = -1 := by unfold tyN; rw [if_neg hq]
        have hr2 : decide ((-1 : Int) < 0) = true := rfl
        simp only [hr, hr2, go_sem, ↓reduceIte, reduceCtorEq, reduceLT, reduceEqDiff, Nat.reduceBEq, reduceAdd, reduceMul, reduceSub, reduceLeDiff, reduceReplicate]
        refine Fz.int ?_
        unfold tyN
        rw [if_neg]
        rintro ⟨q1, q2⟩
        rw [hgd, hn', Bool.true_and, List.all_eq_true] at q1
        have := Typ.dep_mem hx
        exact hq ⟨q1 _ hx, by omega⟩
    · have hk' : k = ks.length := by simp at h; omega
      subst hk'
      rw [List.take_length] at hp hp2 e2
      simp only [h, e2, go_sem, ↓reduceIte, reduceCtorEq, reduceLT, reduceEqDiff, Nat.reduceBEq, reduceAdd, reduceMul, reduceSub, reduceLeDiff, reduceReplicate]
      refine Fz.int ?_
      unfold tyN
      rw [if_pos ⟨by rw [hgd, hn', hp]; rfl, by rw [hdp]; exact hp2⟩, hcn]
  by_cases c4 : k0 = 4
  · have f4 : (k0 == 4) = true := by simp [c4]
    have z2 : (k0 != 2) = true := by simp [c4]
    have ht : tyNode (.mk k0 nm ks) = (decide (nm = nE) && decide (ks.length = 1)) := by simp [tyNode, c4]
    have f1 : (k0 == 1) = false := by simp [c1]
    have f2 : (k0 == 2) = false := by simp [c2]
    have f3 : (k0 == 3) = false := by simp [c3]
    simp only [f1, f2, f3, f4, hda, go_sem, ↓reduceIte, reduceCtorEq, reduceLT, reduceEqDiff, Nat.reduceBEq, reduceAdd, reduceMul, reduceSub, reduceLeDiff, reduceReplicate]
    by_cases d2 : ks.length = 1
    case neg =>
      have g2 : ((ks.length : Int) != 1) = true := bne_t (by omega)
      simp only [g2, hda, go_sem, ↓reduceIte, reduceCtorEq, reduceLT, reduceEqDiff, Nat.reduceBEq, reduceAdd, reduceMul, reduceSub, reduceLeDiff, reduceReplicate]
      exact Fz.int (tyN_bad (by rw [ht]; simp [d2]))
    have g2 : ((ks.length : Int) != 1) = false := bne_f (by omega)
    simp only [g2, z2, hda, go_sem, ↓reduceIte, reduceCtorEq, reduceLT, reduceEqDiff, Nat.reduceBEq, reduceAdd, reduceMul, reduceSub, reduceLeDiff, reduceReplicate]
    by_cases d1 : nm = nE
    case neg =>
      have g1 : (nm.toList == (⟨#[]⟩ : ByteArray).toList) = false := by rw [bytes_eq]; exact decide_eq_false d1
      simp only [g1, hda, go_sem, ↓reduceIte, reduceCtorEq, reduceLT, reduceEqDiff, Nat.reduceBEq, reduceAdd, reduceMul, reduceSub, reduceLeDiff, reduceReplicate]
      exact Fz.int (tyN_bad (by rw [ht]; simp [d1]))
    have g1 : (nm.toList == (⟨#[]⟩ : ByteArray).toList) = true := by rw [bytes_eq]; exact decide_eq_true d1
    simp only [g1, hda, go_sem, ↓reduceIte, reduceCtorEq, reduceLT, reduceEqDiff, Nat.reduceBEq, reduceAdd, reduceMul, reduceSub, reduceLeDiff, reduceReplicate]
    have hn' : tyNode (.mk k0 nm ks) = true := by rw [ht]; simp [d1, d2]
    refine loop_count 7 ks.length (fun k => Fw.Inv 66 [(2, .cp [I k0, S nm, .sl 3 (Typ.dsL ks)]), (1, I a), (6, I ((1 + Typ.numS (ks.take k) : Nat) : Int))] ((ks.take k).all gdT = true ∧ ((1 + Typ.depS (ks.take k) : Nat) : Int) ≤ a)) rfl ⟨rfl, ?_, ?_⟩ ?_
    · simp only [List.take_zero, Typ.numS, envOf, List.getD_cons_zero, List.getD_cons_succ, List.forall_mem_cons, List.not_mem_nil, false_implies, implies_true, setE, ↓reduceIte, Nat.reduceEqDiff, reduceCtorEq, and_true, true_and, and_self, eq_self]; rfl
    · simp [Typ.depS]; omega
    rintro k ⟨env, H, n, nt, T⟩ hk h5 ⟨rfl, hfs, hp, hp2⟩
    simp only [List.forall_mem_cons] at h5 hfs
    obtain ⟨e0, e1, e2, -⟩ := hfs
    simp only [h5, e0, e1, e2, hda, go_sem, ↓reduceIte, reduceCtorEq, reduceLT, reduceEqDiff, Nat.reduceBEq, reduceAdd, reduceMul, reduceSub, reduceLeDiff, reduceReplicate]
    refine condK_split (fun h => ?_) (fun h => ?_)
    · have hlt : k < ks.length := by simpa using h
      have hx := List.getElem_mem hlt
      have g0 := Typ.dsL_get ks k hlt
      have hd0 := Typ.ds_len ks[k]
      have ht0 : List.take 3 ks[k].ds = ks[k].ds := List.take_of_length_le (by omega)
      have ho0 : (ks[k].ds).all oneD = true := by rw [List.all_eq_true]; exact Typ.one ks[k]
      have w1 : IntKind.i64.wrap (a - 1) = a - 1 := Go.IntWalk.i64_in _ (by omega)
      simp only [h, h5, e0, e1, e2, g0, w1, hd0, ht0, ho0, List.take_zero, List.nil_append, hda, go_sem, ↓reduceIte, reduceCtorEq, reduceLT, reduceEqDiff, Nat.reduceBEq, reduceAdd, reduceMul, reduceSub, reduceLeDiff, reduceReplicate]
      refine callK_intro _ (hel ks[k] hx (a - 1) (by omega) (by omega)) (by simp; exact Typ.cl _) ?_
      have hc3 := Typ.numS_le ks (k + 1)
      rw [Typ.numS_take ks k hlt] at hc3
      have hd3 := Typ.depS_le ks (k + 1)
      rw [Typ.depS_take ks k hlt] at hd3
      by_cases hq : gdT ks[k] = true ∧ (ks[k].dep : Int) ≤ a - 1
      · have hr : tyN ks[k] (a - 1) = ks[k].num := by unfold tyN; rw [if_pos hq]
        have hr2 : decide ((ks[k].num : Int) < 0) = false := by simp
        have w3 := wrap_add (1 + Typ.numS (ks.take k)) ks[k].num (by omega)
        have m2 : 1 + Typ.numS (ks.take k) + ks[k].num = 1 + Typ.numS (ks.take (k + 1)) := by rw [Typ.numS_take ks k hlt]; omega
        simp only [hr, hr2, h5, e0, e1, e2, w3, go_sem, ↓reduceIte, reduceCtorEq, reduceLT, reduceEqDiff, Nat.reduceBEq, reduceAdd, reduceMul, reduceSub, reduceLeDiff, reduceReplicate]
        refine nextC_mk (by simp [setE, wrap_succ k (by omega)]) hlt ⟨rfl, ?_, by rw [all_take_succ hlt, hp, hq.1]; rfl, by rw [Typ.depS_take ks k hlt]; omega⟩
        simp only [e0, e1, m2, List.forall_mem_cons, List.not_mem_nil, false_implies, implies_true, setE, ↓reduceIte, Nat.reduceEqDiff, reduceCtorEq, and_true, true_and, and_self, eq_self]
      · have hr : tyN ks[k] (a - 1) = -1 := by unfold tyN; rw [if_neg hq]
        have hr2 : decide ((-1 : Int) < 0) = true := rfl
        simp only [hr, hr2, go_sem, ↓reduceIte, reduceCtorEq, reduceLT, reduceEqDiff, Nat.reduceBEq, reduceAdd, reduceMul, reduceSub, reduceLeDiff, reduceReplicate]
        refine Fz.int ?_
        unfold tyN
        rw [if_neg]
        rintro ⟨q1, q2⟩
        rw [hgd, hn', Bool.true_and, List.all_eq_true] at q1
        have := Typ.dep_mem hx
        exact hq ⟨q1 _ hx, by omega⟩
    · have hk' : k = ks.length := by simp at h; omega
      subst hk'
      rw [List.take_length] at hp hp2 e2
      simp only [h, e2, go_sem, ↓reduceIte, reduceCtorEq, reduceLT, reduceEqDiff, Nat.reduceBEq, reduceAdd, reduceMul, reduceSub, reduceLeDiff, reduceReplicate]
      refine Fz.int ?_
      unfold tyN
      rw [if_pos ⟨by rw [hgd, hn', hp]; rfl, by rw [hdp]; exact hp2⟩, hcn]
  have f1 : (k0 == 1) = false := by simp [c1]
  have f2 : (k0 == 2) = false := by simp [c2]
  have f3 : (k0 == 3) = false := by simp [c3]
  have f4 : (k0 == 4) = false := by simp [c4]
  simp only [f1, f2, f3, f4, hda, go_sem, ↓reduceIte, reduceCtorEq, reduceLT, reduceEqDiff, Nat.reduceBEq, reduceAdd, reduceMul, reduceSub, reduceLeDiff, reduceReplicate]
  exact Fz.int (tyN_bad (by simp [tyNode, c1, c2, c3, c4]))
theorem l02Nodes (t : Typ) (a : Int) (ha0 : 0 ≤ a) (ha : a ≤ 6) (hs : t.sz ≤ 1048576) (ho : t.ok) : Sp Tryz.prog 99 [.ag t.ds, I a] (I (tyN t a)) := by
  match t, hs, ho with
  | .mk k n ks, hs, ho =>
  simp only [Typ.ok] at ho
  simp only [Typ.sz] at hs
  have hb := Typ.numS_le_szS ks
  exact l02Nodes_step k n ks a ha0 ha ho.1 (by omega) ho.2.1 fun x hx a h0 h1 => l02Nodes x a h0 h1 (by have := Typ.sz_mem hx; omega) (Typ.okS_mem ho.2.2 x hx)
termination_by t
decreasing_by all_goals (have := List.sizeOf_lt_of_mem hx; simp; omega)
theorem tyF_eq (t : Typ) : inR (tyN t 6) 1 16 = tyF t := by
  have := Typ.num_pos t
  unfold tyN tyF
  by_cases h : gdT t = true
  · by_cases h2 : t.dep ≤ 6
    · rw [if_pos ⟨h, by omega⟩, h, Bool.true_and, inR, decide_eq_decide]; omega
    · rw [if_neg (by rintro ⟨_, h3⟩; omega), h, Bool.true_and, inR, decide_eq_decide]; omega
  · rw [if_neg (fun k => h k.1)]; simp [h, inR]
theorem specValidType (t : Typ) (hs : t.sz ≤ 1048576) (ho : t.ok) : Sp Tryz.prog 58 [.ag t.ds] (B (tyF t)) := by
  have hd0 := Typ.ds_len t
  have ht0 : List.take 3 t.ds = t.ds := List.take_of_length_le (by omega)
  have ho0 : (t.ds).all oneD = true := by rw [List.all_eq_true]; exact Typ.one t
  refine Sp.of_vc [] [.tmp 2] Tryz.func58 rfl (by kernel_rfl) Tryz.ntmps58 rfl (by simp) ?_
  simp only [hd0, ht0, ho0, List.take_zero, List.nil_append, go_sem, ↓reduceIte, reduceCtorEq, reduceLT, reduceEqDiff, Nat.reduceBEq, reduceAdd, reduceMul, reduceSub, reduceLeDiff, reduceReplicate]
  refine callK_intro _ (l02Nodes t 6 (by omega) (by omega) hs ho) (by simp; exact Typ.cl _) ?_
  simp only [go_sem, ↓reduceIte, reduceCtorEq, reduceLT, reduceEqDiff, Nat.reduceBEq, reduceAdd, reduceMul, reduceSub, reduceLeDiff, reduceReplicate]
  refine callK_intro _ (l00In _ _ _) (by simp) ?_
  simp only [go_sem, ↓reduceIte, reduceCtorEq, reduceLT, reduceEqDiff, Nat.reduceBEq, reduceAdd, reduceMul, reduceSub, reduceLeDiff, reduceReplicate]
  exact Fz.bool (tyF_eq t)
end Go.Proofs.YtcidmkcicagpaaaGreat
