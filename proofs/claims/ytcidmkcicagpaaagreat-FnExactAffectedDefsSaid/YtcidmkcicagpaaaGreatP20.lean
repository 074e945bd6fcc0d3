/-
  CheckNames of the reference. No condition.
-/
import Derived.Test.YtcidmkcicagpaaaGreatP19
import Derived.Test.YtcidmkcicagpaaaGreatFw16
set_option maxRecDepth 100000
set_option linter.unusedSimpArgs false
set_option linter.unusedVariables false
namespace Go.Proofs.YtcidmkcicagpaaaGreat
open Go.Fw
open Nat (reduceLT reduceEqDiff reduceAdd reduceMul reduceSub reduceLeDiff)
open List (reduceReplicate)
theorem l03NamesFit_step (das : List Dat) (hd : DatOk das) (k v : Int) (n : ByteArray) (tk : Int) (tn : ByteArray) (tks : List Typ) (ns : List ByteArray) (ks : List Term) (hkl : ks.length ≤ 1048576)
    (ho : (Typ.mk tk tn tks).ok) (ht : k = 4 → gdT (.mk tk tn tks) = true) (hel : ∀ x ∈ ks, Sp Tryz.prog 113 [Dat.sl das, .cp x.ds] (B (Term.good (fitN das) x))) :
    Sp Tryz.prog 113 [Dat.sl das, .cp (Term.ds (.mk k v n (.mk tk tn tks) ns ks))] (B (Term.good (fitN das) (.mk k v n (.mk tk tn tks) ns ks))) := by
  have hdm : das.length ≤ maxLen := by have := hd.len; unfold maxLen; omega
  have hda : (Term.dsL ks).length = ks.length := Term.dsL_len ks
  have hgd : Term.good (fitN das) (.mk k v n (.mk tk tn tks) ns ks) = (fitN das (.mk k v n (.mk tk tn tks) ns ks) && ks.all (Term.good (fitN das))) := by rw [Term.good, Term.goodS_eq]
  have hfc := l02Constructor das n hd.len hd.cs
  rw [hgd]
  refine Sp.of_vc [] [.tmp 4] Tryz.func113 rfl (by kernel_rfl) Tryz.ntmps113 rfl (by simp) ?_
  simp only [Term.ds, Typ.ds, strs, List.cons_append, List.nil_append, hda, go_sem, ↓reduceIte, reduceCtorEq, reduceLT, reduceEqDiff, Nat.reduceBEq, reduceAdd, reduceMul, reduceSub, reduceLeDiff, reduceReplicate]
  by_cases c4 : k = 4
  · have f4 : (k == 4) = true := by simp [c4]
    have f8 : (k == 8) = false := by simp [c4]
    have f10 : (k == 10) = false := by simp [c4]
    have hde := l02Known das hdm (.mk tk tn tks) ho (ht c4)
    simp only [Typ.ds] at hde
    simp only [f4, go_sem, ↓reduceIte, reduceCtorEq, reduceLT, reduceEqDiff, Nat.reduceBEq, reduceAdd, reduceMul, reduceSub, reduceLeDiff, reduceReplicate]
    refine callK_intro _ hde (by simp; exact ⟨Dat.clL _, Typ.clL _⟩) ?_
    cases c1 : Typ.good (dNode das) (.mk tk tn tks)
    · simp only [go_sem, ↓reduceIte, reduceCtorEq, reduceLT, reduceEqDiff, Nat.reduceBEq, reduceAdd, reduceMul, reduceSub, reduceLeDiff, reduceReplicate]
      exact Fz.bool (by simp [fitN, c4, c1])
    have hft : fitN das (.mk k v n (.mk tk tn tks) ns ks) = true := by simp [fitN, c4, c1]
    simp only [f4, f8, f10, go_sem, ↓reduceIte, reduceCtorEq, reduceLT, reduceEqDiff, Nat.reduceBEq, reduceAdd, reduceMul, reduceSub, reduceLeDiff, reduceReplicate]
    rw [hft, Bool.true_and]
    refine loop_count 7 ks.length (fun j => Fw.Inv 63 [(0, Dat.sl das), (1, .cp [I k, I v, S n, I tk, S tn, .sl 3 (Typ.dsL tks), .sl 1 (R ns), .sl 8 (Term.dsL ks)])] ((ks.take j).all (Term.good (fitN das)) = true)) rfl ⟨rfl, by simp [Dat.sl, envOf, setE], by simp⟩ ?_
    rintro j ⟨env, H, n', nt, T⟩ hj h5 ⟨rfl, hfs, hp⟩
    simp only [List.forall_mem_cons, Dat.sl] at h5 hfs
    obtain ⟨e0, e1, -⟩ := hfs
    simp only [h5, e0, e1, hda, go_sem, ↓reduceIte, reduceCtorEq, reduceLT, reduceEqDiff, Nat.reduceBEq, reduceAdd, reduceMul, reduceSub, reduceLeDiff, reduceReplicate]
    refine condK_split (fun h => ?_) (fun h => ?_)
    · have hlt : j < ks.length := by simpa using h
      have g0 := Term.dsL_get ks j hlt
      simp only [h, h5, e0, e1, g0, hda, go_sem, ↓reduceIte, reduceCtorEq, reduceLT, reduceEqDiff, Nat.reduceBEq, reduceAdd, reduceMul, reduceSub, reduceLeDiff, reduceReplicate]
      refine callK_intro _ (hel ks[j] (List.getElem_mem hlt)) (by simp only [List.nil_append, List.append_nil, List.forall_mem_cons]; exact ⟨Dat.cl_sl _, Cl.cp' (Term.cl _), by simp⟩) ?_
      cases hq : Term.good (fitN das) ks[j]
      · simp only [go_sem, ↓reduceIte, reduceCtorEq, reduceLT, reduceEqDiff, Nat.reduceBEq, reduceAdd, reduceMul, reduceSub, reduceLeDiff, reduceReplicate]
        exact Fz.bool (by rw [all_of_take hlt hq])
      · simp only [h5, go_sem, ↓reduceIte, reduceCtorEq, reduceLT, reduceEqDiff, Nat.reduceBEq, reduceAdd, reduceMul, reduceSub, reduceLeDiff, reduceReplicate]
        refine nextC_mk (by simp [setE, wrap_succ j (by omega)]) hlt ⟨rfl, by simp [setE, e0, e1, Dat.sl], by rw [all_take_succ hlt, hp, hq]; rfl⟩
    · have hj' : j = ks.length := by simp at h; omega
      subst hj'
      rw [List.take_length] at hp
      simp only [h, go_sem, ↓reduceIte, reduceCtorEq, reduceLT, reduceEqDiff, Nat.reduceBEq, reduceAdd, reduceMul, reduceSub, reduceLeDiff, reduceReplicate]
      exact Fz.bool (by rw [hp])
  have f4 : (k == 4) = false := by simp [c4]
  simp only [f4, go_sem, ↓reduceIte, reduceCtorEq, reduceLT, reduceEqDiff, Nat.reduceBEq, reduceAdd, reduceMul, reduceSub, reduceLeDiff, reduceReplicate]
  by_cases c8 : k = 8
  · have f8 : (k == 8) = true := by simp [c8]
    simp only [f8, go_sem, ↓reduceIte, reduceCtorEq, reduceLT, reduceEqDiff, Nat.reduceBEq, reduceAdd, reduceMul, reduceSub, reduceLeDiff, reduceReplicate]
    refine callK_intro _ hfc (by simp; exact Dat.clL _) ?_
    by_cases c1 : datI das n < 0
    · simp only [decide_eq_true c1, go_sem, ↓reduceIte, reduceCtorEq, reduceLT, reduceEqDiff, Nat.reduceBEq, reduceAdd, reduceMul, reduceSub, reduceLeDiff, reduceReplicate]
      exact Fz.bool (by simp [fitN, c8]; omega)
    have hft : fitN das (.mk k v n (.mk tk tn tks) ns ks) = true := by simp [fitN, c8]; omega
    simp only [decide_eq_false c1, go_sem, ↓reduceIte, reduceCtorEq, reduceLT, reduceEqDiff, Nat.reduceBEq, reduceAdd, reduceMul, reduceSub, reduceLeDiff, reduceReplicate]
    rw [hft, Bool.true_and]
    refine loop_count 7 ks.length (fun j => Fw.Inv 63 [(0, Dat.sl das), (1, .cp [I k, I v, S n, I tk, S tn, .sl 3 (Typ.dsL tks), .sl 1 (R ns), .sl 8 (Term.dsL ks)])] ((ks.take j).all (Term.good (fitN das)) = true)) rfl ⟨rfl, by simp [Dat.sl, envOf, setE], by simp⟩ ?_
    rintro j ⟨env, H, n', nt, T⟩ hj h5 ⟨rfl, hfs, hp⟩
    simp only [List.forall_mem_cons, Dat.sl] at h5 hfs
    obtain ⟨e0, e1, -⟩ := hfs
    simp only [h5, e0, e1, hda, go_sem, ↓reduceIte, reduceCtorEq, reduceLT, reduceEqDiff, Nat.reduceBEq, reduceAdd, reduceMul, reduceSub, reduceLeDiff, reduceReplicate]
    refine condK_split (fun h => ?_) (fun h => ?_)
    · have hlt : j < ks.length := by simpa using h
      have g0 := Term.dsL_get ks j hlt
      simp only [h, h5, e0, e1, g0, hda, go_sem, ↓reduceIte, reduceCtorEq, reduceLT, reduceEqDiff, Nat.reduceBEq, reduceAdd, reduceMul, reduceSub, reduceLeDiff, reduceReplicate]
      refine callK_intro _ (hel ks[j] (List.getElem_mem hlt)) (by simp only [List.nil_append, List.append_nil, List.forall_mem_cons]; exact ⟨Dat.cl_sl _, Cl.cp' (Term.cl _), by simp⟩) ?_
      cases hq : Term.good (fitN das) ks[j]
      · simp only [go_sem, ↓reduceIte, reduceCtorEq, reduceLT, reduceEqDiff, Nat.reduceBEq, reduceAdd, reduceMul, reduceSub, reduceLeDiff, reduceReplicate]
        exact Fz.bool (by rw [all_of_take hlt hq])
      · simp only [h5, go_sem, ↓reduceIte, reduceCtorEq, reduceLT, reduceEqDiff, Nat.reduceBEq, reduceAdd, reduceMul, reduceSub, reduceLeDiff, reduceReplicate]
        refine nextC_mk (by simp [setE, wrap_succ j (by omega)]) hlt ⟨rfl, by simp [setE, e0, e1, Dat.sl], by rw [all_take_succ hlt, hp, hq]; rfl⟩
    · have hj' : j = ks.length := by simp at h; omega
      subst hj'
      rw [List.take_length] at hp
      simp only [h, go_sem, ↓reduceIte, reduceCtorEq, reduceLT, reduceEqDiff, Nat.reduceBEq, reduceAdd, reduceMul, reduceSub, reduceLeDiff, reduceReplicate]
      exact Fz.bool (by rw [hp])
  have f8 : (k == 8) = false := by simp [c8]
  by_cases c10 : k = 10
  · have f10 : (k == 10) = true := by simp [c10]
    simp only [f8, f10, go_sem, ↓reduceIte, reduceCtorEq, reduceLT, reduceEqDiff, Nat.reduceBEq, reduceAdd, reduceMul, reduceSub, reduceLeDiff, reduceReplicate]
    refine callK_intro _ hfc (by simp; exact Dat.clL _) ?_
    by_cases c1 : datI das n < 0
    · simp only [decide_eq_true c1, go_sem, ↓reduceIte, reduceCtorEq, reduceLT, reduceEqDiff, Nat.reduceBEq, reduceAdd, reduceMul, reduceSub, reduceLeDiff, reduceReplicate]
      exact Fz.bool (by simp [fitN, c10]; omega)
    have hft : fitN das (.mk k v n (.mk tk tn tks) ns ks) = true := by simp [fitN, c10]; omega
    simp only [decide_eq_false c1, go_sem, ↓reduceIte, reduceCtorEq, reduceLT, reduceEqDiff, Nat.reduceBEq, reduceAdd, reduceMul, reduceSub, reduceLeDiff, reduceReplicate]
    rw [hft, Bool.true_and]
    refine loop_count 7 ks.length (fun j => Fw.Inv 63 [(0, Dat.sl das), (1, .cp [I k, I v, S n, I tk, S tn, .sl 3 (Typ.dsL tks), .sl 1 (R ns), .sl 8 (Term.dsL ks)])] ((ks.take j).all (Term.good (fitN das)) = true)) rfl ⟨rfl, by simp [Dat.sl, envOf, setE], by simp⟩ ?_
    rintro j ⟨env, H, n', nt, T⟩ hj h5 ⟨rfl, hfs, hp⟩
    simp only [List.forall_mem_cons, Dat.sl] at h5 hfs
    obtain ⟨e0, e1, -⟩ := hfs
    simp only [h5, e0, e1, hda, go_sem, ↓reduceIte, reduceCtorEq, reduceLT, reduceEqDiff, Nat.reduceBEq, reduceAdd, reduceMul, reduceSub, reduceLeDiff, reduceReplicate]
    refine condK_split (fun h => ?_) (fun h => ?_)
    · have hlt : j < ks.length := by simpa using h
      have g0 := Term.dsL_get ks j hlt
      simp only [h, h5, e0, e1, g0, hda, go_sem, ↓reduceIte, reduceCtorEq, reduceLT, reduceEqDiff, Nat.reduceBEq, reduceAdd, reduceMul, reduceSub, reduceLeDiff, reduceReplicate]
      refine callK_intro _ (hel ks[j] (List.getElem_mem hlt)) (by simp only [List.nil_append, List.append_nil, List.forall_mem_cons]; exact ⟨Dat.cl_sl _, Cl.cp' (Term.cl _), by simp⟩) ?_
      cases hq : Term.good (fitN das) ks[j]
      · simp only [go_sem, ↓reduceIte, reduceCtorEq, reduceLT, reduceEqDiff, Nat.reduceBEq, reduceAdd, reduceMul, reduceSub, reduceLeDiff, reduceReplicate]
        exact Fz.bool (by rw [all_of_take hlt hq])
      · simp only [h5, go_sem, ↓reduceIte, reduceCtorEq, reduceLT, reduceEqDiff, Nat.reduceBEq, reduceAdd, reduceMul, reduceSub, reduceLeDiff, reduceReplicate]
        refine nextC_mk (by simp [setE, wrap_succ j (by omega)]) hlt ⟨rfl, by simp [setE, e0, e1, Dat.sl], by rw [all_take_succ hlt, hp, hq]; rfl⟩
    · have hj' : j = ks.length := by simp at h; omega
      subst hj'
      rw [List.take_length] at hp
      simp only [h, go_sem, ↓reduceIte, reduceCtorEq, reduceLT, reduceEqDiff, Nat.reduceBEq, reduceAdd, reduceMul, reduceSub, reduceLeDiff, reduceReplicate]
      exact Fz.bool (by rw [hp])
  have f10 : (k == 10) = false := by simp [c10]
  have hft : fitN das (.mk k v n (.mk tk tn tks) ns ks) = true := by simp [fitN, c4, c8, c10]
  simp only [f8, f10, go_sem, ↓reduceIte, reduceCtorEq, reduceLT, reduceEqDiff, Nat.reduceBEq, reduceAdd, reduceMul, reduceSub, reduceLeDiff, reduceReplicate]
  rw [hft, Bool.true_and]
  refine loop_count 7 ks.length (fun j => Fw.Inv 63 [(0, Dat.sl das), (1, .cp [I k, I v, S n, I tk, S tn, .sl 3 (Typ.dsL tks), .sl 1 (R ns), .sl 8 (Term.dsL ks)])] ((ks.take j).all (Term.good (fitN das)) = true)) rfl ⟨rfl, by simp [Dat.sl, envOf, setE], by simp⟩ ?_
  rintro j ⟨env, H, n', nt, T⟩ hj h5 ⟨rfl, hfs, hp⟩
  simp only [List.forall_mem_cons, Dat.sl] at h5 hfs
  obtain ⟨e0, e1, -⟩ := hfs
  simp only [h5, e0, e1, hda, go_sem, ↓reduceIte, reduceCtorEq, reduceLT, reduceEqDiff, Nat.reduceBEq, reduceAdd, reduceMul, reduceSub, reduceLeDiff, reduceReplicate]
  refine condK_split (fun h => ?_) (fun h => ?_)
  · have hlt : j < ks.length := by simpa using h
    have g0 := Term.dsL_get ks j hlt
    simp only [h, h5, e0, e1, g0, hda, go_sem, ↓reduceIte, reduceCtorEq, reduceLT, reduceEqDiff, Nat.reduceBEq, reduceAdd, reduceMul, reduceSub, reduceLeDiff, reduceReplicate]
    refine callK_intro _ (hel ks[j] (List.getElem_mem hlt)) (by simp only [List.nil_append, List.append_nil, List.forall_mem_cons]; exact ⟨Dat.cl_sl _, Cl.cp' (Term.cl _), by simp⟩) ?_
    cases hq : Term.good (fitN das) ks[j]
    · simp only [go_sem, ↓reduceIte, reduceCtorEq, reduceLT, reduceEqDiff, Nat.reduceBEq, reduceAdd, reduceMul, reduceSub, reduceLeDiff, reduceReplicate]
      exact Fz.bool (by rw [all_of_take hlt hq])
    · simp only [h5, go_sem, ↓reduceIte, reduceCtorEq, reduceLT, reduceEqDiff, Nat.reduceBEq, reduceAdd, reduceMul, reduceSub, reduceLeDiff, reduceReplicate]
      refine nextC_mk (by simp [setE, wrap_succ j (by omega)]) hlt ⟨rfl, by simp [setE, e0, e1, Dat.sl], by rw [all_take_succ hlt, hp, hq]; rfl⟩
  · have hj' : j = ks.length := by simp at h; omega
    subst hj'
    rw [List.take_length] at hp
    simp only [h, go_sem, ↓reduceIte, reduceCtorEq, reduceLT, reduceEqDiff, Nat.reduceBEq, reduceAdd, reduceMul, reduceSub, reduceLeDiff, reduceReplicate]
    exact Fz.bool (by rw [hp])
theorem gdM_typ {k v : Int} {n : ByteArray} {ty : Typ} {ns : List ByteArray} {ks : List Term} (hg : gdM (.mk k v n ty ns ks) = true) : k = 4 → gdT ty = true := fun hk => by
  rw [gdM, Term.good, Bool.and_eq_true] at hg
  have := hg.1
  simp only [tmOk, tmNode, fieldsF, Bool.and_eq_true] at this
  have := this.1.2.1.1.2
  simp only [typF, hk, if_true, tyF, Bool.and_eq_true] at this
  exact this.1
theorem l03NamesFit (das : List Dat) (hd : DatOk das) (t : Term) (hg : gdM t = true) (ho : t.ok) : Sp Tryz.prog 113 [Dat.sl das, .cp t.ds] (B (Term.good (fitN das) t)) := by
  match t, hg, ho with
  | .mk k v n (.mk tk tn tks) ns ks, hg, ho =>
  simp only [Term.ok] at ho
  exact l03NamesFit_step das hd k v n tk tn tks ns ks (gdM_len hg) ho.2.1 (gdM_typ hg) fun x hx => l03NamesFit das hd x ((gdM_kids hg).2 x hx) (Term.okS_mem ho.2.2.2.2.2 x hx)
termination_by t
decreasing_by all_goals (have := List.sizeOf_lt_of_mem hx; simp; omega)
theorem gdM_match {k v : Int} {n : ByteArray} {ty : Typ} {ns : List ByteArray} {ks : List Term} (hg : gdM (.mk k v n ty ns ks) = true) (c9 : k = 9) : 2 ≤ ks.length ∧ (∀ (i : Nat) (h : i < ks.length), 0 < i → Term.kd ks[i] = 10) := by
  rw [gdM, Term.good, Bool.and_eq_true] at hg
  have h1 := hg.1
  simp only [tmOk, tmNode, Bool.and_eq_true, inR, decide_eq_true_eq] at h1
  refine ⟨?_, fun i h hi => ?_⟩
  · have := h1.1.1.1
    simp [kidsR, c9] at this
    omega
  · have := h1.2
    simp only [caseF, decide_eq_true_eq] at this
    have := this i h
    simpa [c9, hi] using this
theorem fit_case {das : List Dat} {t : Term} (hf : Term.good (fitN das) t = true) (hk : Term.kd t = 10 ∨ Term.kd t = 8) : 0 ≤ datI das (Term.nmT t) := by
  obtain ⟨a1, a2, a3, a4, a5, a6⟩ := t
  simp only [Term.kd] at hk
  rw [Term.good, Bool.and_eq_true] at hf
  have := hf.1
  rcases hk with hk | hk <;> simp [fitN, hk] at this <;> simp only [Term.nmT] <;> omega
theorem l03CasesFit (das : List Dat) (hd : DatOk das) (k v : Int) (n : ByteArray) (tk : Int) (tn : ByteArray) (tks : List Typ) (ns : List ByteArray) (k0 c : Term) (l : List Term) (hl : l.length ≤ 1048576) (hc : 0 ≤ datI das (Term.nmT c)) :
    Sp Tryz.prog 145 [Dat.sl das, .cp (Term.ds (.mk k v n (.mk tk tn tks) ns (k0 :: c :: l)))] (B (casesN das (c :: l))) := by
  have hda : (Dat.dsL das).length = das.length := Dat.dsL_len das
  obtain ⟨i, hi, t, ht, e1, e2, e3, e4, e5⟩ := con_at hc
  have hfc := l02Constructor das (Term.nmT c) hd.len hd.cs
  rw [e1, e5] at hfc
  have g0 := Dat.dsL_get das i hi
  have hen : casesN das (c :: l) = casesB (c :: l) (Dat.cs das[i]) := by rw [casesN, e4]
  have hcs := hd.cs _ (List.getElem_mem hi)
  have hcn : c.ds[2]? = some (S (Term.nmT c)) := by obtain ⟨a1, a2, a3, a4, a5, a6⟩ := c; rfl
  obtain ⟨ls, hls⟩ : ∃ ls, ls = c :: l := ⟨_, rfl⟩
  have hll : ls.length = l.length + 1 := by rw [hls]; rfl
  have hkd : Term.dsL (k0 :: c :: l) = k0.ds :: Term.dsL ls := by rw [hls]; rfl
  have hkn : (Term.dsL ls).length = ls.length := Term.dsL_len ls
  have g1 : (Term.dsL (k0 :: c :: l))[1]? = some c.ds := rfl
  obtain ⟨d, hdd⟩ : ∃ d, d = das[i] := ⟨_, rfl⟩
  rw [← hdd] at g0 hen hcs
  rw [← hls] at hen hkd g1 ⊢
  obtain ⟨dn, cs⟩ := d
  simp only [Dat.cs] at hen hcs
  have hcd : (Constructor.dsL cs).length = cs.length := Constructor.dsL_len cs
  simp only [Dat.ds, Constructor.sl] at g0
  simp only [Term.ds, Typ.ds, strs, List.cons_append, List.nil_append] at g1 ⊢
  obtain ⟨X, hX⟩ : ∃ X, X = Term.dsL (k0 :: ls) := ⟨_, rfl⟩
  rw [← hX] at g1 hkd ⊢
  have hXl : X.length = ls.length + 1 := by rw [hkd]; simp [hkn]
  have hXg : ∀ (j : Nat) (h : j < ls.length), X[j + 1]? = some (Term.ds ls[j]) := fun j h => by rw [hkd, List.getElem?_cons_succ, Term.dsL_get ls j h]
  have hdr : ∃ b, c.ds.drop 2 = S (Term.nmT c) :: b := by obtain ⟨a1, a2, a3, a4, a5, a6⟩ := c; exact ⟨_, rfl⟩
  obtain ⟨rb, hdr⟩ := hdr
  rw [hen]
  refine Sp.of_vc [] [.tmp 4] Tryz.func145 rfl (by kernel_rfl) Tryz.ntmps145 rfl (by simp) ?_
  have tn1 : Int.toNat 1 = 1 := rfl
  have h01 : ((0 : Int) ≤ 1) = True := by simp
  simp only [tn1, h01, g1, hdr, go_sem, ↓reduceIte, reduceCtorEq, reduceLT, reduceEqDiff, Nat.reduceBEq, reduceAdd, reduceMul, reduceSub, reduceLeDiff, reduceReplicate]
  refine callK_intro _ hfc (by simp; exact Dat.clL _) ?_
  simp only [g0, hcd, hXl, go_sem, ↓reduceIte, reduceCtorEq, reduceLT, reduceEqDiff, Nat.reduceBEq, reduceAdd, reduceMul, reduceSub, reduceLeDiff, reduceReplicate]
  simp only [wrap_succ cs.length (by omega)]
  refine condK_split (fun h => ?_) (fun h => ?_)
  · simp only [h, go_sem, ↓reduceIte, reduceCtorEq, reduceLT, reduceEqDiff, Nat.reduceBEq, reduceAdd, reduceMul, reduceSub, reduceLeDiff, reduceReplicate]
    refine Fz.bool ?_
    have : ¬ ls.length = cs.length := by simp at h; omega
    simp [casesB, this]
  have hlc : ls.length = cs.length := by simp at h; omega
  simp only [h, go_sem, ↓reduceIte, reduceCtorEq, reduceLT, reduceEqDiff, Nat.reduceBEq, reduceAdd, reduceMul, reduceSub, reduceLeDiff, reduceReplicate]
  refine loop_count 8 ls.length (fun j => Fw.Inv 75 [(0, Dat.sl das), (1, .cp [I k, I v, S n, I tk, S tn, .sl 3 (Typ.dsL tks), .sl 1 (R ns), .sl 8 X]), (7, Constructor.sl cs)] (((ls.zip cs).take j).all (fun z => caseB z.1 z.2) = true)) rfl ⟨rfl, by simp [Dat.sl, Constructor.sl, envOf, setE, R], by simp⟩ ?_
  rintro j ⟨env, H, n', nt, T⟩ hj h5 ⟨rfl, hfs, hp⟩
  simp only [List.forall_mem_cons, Dat.sl, Constructor.sl] at h5 hfs
  obtain ⟨e0, e1, e2, -⟩ := hfs
  simp only [h5, e0, e1, e2, hcd, go_sem, ↓reduceIte, reduceCtorEq, reduceLT, reduceEqDiff, Nat.reduceBEq, reduceAdd, reduceMul, reduceSub, reduceLeDiff, reduceReplicate]
  refine condK_split (fun h => ?_) (fun h => ?_)
  · have hlt : j < cs.length := by simpa using h
    have hll : j < ls.length := by omega
    have hlz : j < (ls.zip cs).length := by rw [List.length_zip]; omega
    have hz : (ls.zip cs)[j] = (ls[j], cs[j]) := List.getElem_zip
    have g2 := hXg j hll
    have g3 := Constructor.dsL_get cs j hlt
    obtain ⟨x, hx⟩ : ∃ x, x = ls[j] := ⟨_, rfl⟩
    obtain ⟨y, hy⟩ : ∃ y, y = cs[j] := ⟨_, rfl⟩
    rw [← hx] at g2 hz
    rw [← hy] at g3 hz
    obtain ⟨xk, xv, xn, ⟨ak, an, aks⟩, xns, xks⟩ := x
    obtain ⟨yn, yfs⟩ := y
    have hfl : (Typ.dsL yfs).length = yfs.length := Typ.dsL_len yfs
    have hcb : caseB (.mk xk xv xn (.mk ak an aks) xns xks) (.mk yn yfs) = (decide (xn = yn) && decide (xns.length = yfs.length)) := rfl
    simp only [Term.ds, Typ.ds, Constructor.ds, Typ.sl, strs, List.cons_append, List.nil_append] at g2 g3
    have hnn : ((0 : Int) ≤ ((j + 1 : Nat) : Int)) = True := eq_true (by omega)
    simp only [h, go_sem, ↓reduceIte, reduceCtorEq, reduceLT, reduceEqDiff, Nat.reduceBEq, reduceAdd, reduceMul, reduceSub, reduceLeDiff, reduceReplicate]
    refine drawK_intro mixed (by kernel_rfl) ?_
    simp only [h, h5, e0, e1, e2, g2, g3, hcd, hfl, hXl, wrap_succ j (by omega), Int.toNat_natCast, hnn, go_sem, ↓reduceIte, reduceCtorEq, reduceLT, reduceEqDiff, Nat.reduceBEq, reduceAdd, reduceMul, reduceSub, reduceLeDiff, reduceReplicate]
    by_cases q1 : xn = yn
    · have f1 : (xn.toList == yn.toList) = true := by rw [bytes_eq]; exact decide_eq_true q1
      simp only [f1, h5, e0, e1, e2, g2, g3, hcd, hfl, hXl, wrap_succ j (by omega), Int.toNat_natCast, hnn, List.length_map, go_sem, ↓reduceIte, reduceCtorEq, reduceLT, reduceEqDiff, Nat.reduceBEq, reduceAdd, reduceMul, reduceSub, reduceLeDiff, reduceReplicate]
      refine condK_split (fun h => ?_) (fun h => ?_)
      · simp only [h, go_sem, ↓reduceIte, reduceCtorEq, reduceLT, reduceEqDiff, Nat.reduceBEq, reduceAdd, reduceMul, reduceSub, reduceLeDiff, reduceReplicate]
        refine Fz.bool ?_
        have : ¬ xns.length = yfs.length := by simp at h; omega
        symm
        rw [casesB, Bool.and_eq_false_iff]; right
        exact all_of_take hlz (by rw [hz]; simp [hcb, this])
      · have q2 : xns.length = yfs.length := by simp at h; omega
        simp only [h, h5, go_sem, ↓reduceIte, reduceCtorEq, reduceLT, reduceEqDiff, Nat.reduceBEq, reduceAdd, reduceMul, reduceSub, reduceLeDiff, reduceReplicate]
        refine nextC_mk (by simp [setE, wrap_succ j (by omega)]) hll ⟨rfl, by simp [setE, e0, e1, e2, Dat.sl, Constructor.sl, R], ?_⟩
        rw [all_take_succ hlz, hp, hz]; show caseB _ _ = true; rw [hcb]; simp [q1, q2]
    · have f1 : (xn.toList == yn.toList) = false := by rw [bytes_eq]; exact decide_eq_false q1
      simp only [f1, go_sem, ↓reduceIte, reduceCtorEq, reduceLT, reduceEqDiff, Nat.reduceBEq, reduceAdd, reduceMul, reduceSub, reduceLeDiff, reduceReplicate]
      refine Fz.bool ?_
      symm
      rw [casesB, Bool.and_eq_false_iff]; right
      exact all_of_take hlz (by rw [hz]; simp [hcb, q1])
  · have hj' : j = ls.length := by simp at h; omega
    simp only [h, go_sem, ↓reduceIte, reduceCtorEq, reduceLT, reduceEqDiff, Nat.reduceBEq, reduceAdd, reduceMul, reduceSub, reduceLeDiff, reduceReplicate]
    refine Fz.bool ?_
    rw [hj', List.take_of_length_le (by rw [List.length_zip]; omega)] at hp
    simp [casesB, hp, hlc]
theorem l03CountsFit_step (das : List Dat) (hd : DatOk das) (k v : Int) (n : ByteArray) (tk : Int) (tn : ByteArray) (tks : List Typ) (ns : List ByteArray) (ks : List Term) (hkl : ks.length ≤ 1048576)
    (hg : gdM (.mk k v n (.mk tk tn tks) ns ks) = true) (hf : Term.good (fitN das) (.mk k v n (.mk tk tn tks) ns ks) = true) (hel : ∀ x ∈ ks, Sp Tryz.prog 114 [Dat.sl das, .cp x.ds] (B (Term.good (countN das) x))) :
    Sp Tryz.prog 114 [Dat.sl das, .cp (Term.ds (.mk k v n (.mk tk tn tks) ns ks))] (B (Term.good (countN das) (.mk k v n (.mk tk tn tks) ns ks))) := by
  have hda : (Dat.dsL das).length = das.length := Dat.dsL_len das
  have hdk : (Term.dsL ks).length = ks.length := Term.dsL_len ks
  have hgd : Term.good (countN das) (.mk k v n (.mk tk tn tks) ns ks) = (countN das (.mk k v n (.mk tk tn tks) ns ks) && ks.all (Term.good (countN das))) := by rw [Term.good, Term.goodS_eq]
  rw [Term.good, Term.goodS_eq, Bool.and_eq_true, List.all_eq_true] at hf
  obtain ⟨hf1, hf2⟩ := hf
  rw [hgd]
  refine Sp.of_vc [] [.tmp 4] Tryz.func114 rfl (by kernel_rfl) Tryz.ntmps114 rfl (by simp) ?_
  simp only [Term.ds, Typ.ds, strs, List.cons_append, List.nil_append, go_sem, ↓reduceIte, reduceCtorEq, reduceLT, reduceEqDiff, Nat.reduceBEq, reduceAdd, reduceMul, reduceSub, reduceLeDiff, reduceReplicate]
  by_cases c8 : k = 8
  · have f8 : (k == 8) = true := by simp [c8]
    have hc : 0 ≤ datI das n := by simp [fitN, c8] at hf1; omega
    obtain ⟨i, hi, t, ht, e1, e2, e3, e4, e5⟩ := con_at hc
    have hfc := l02Constructor das n hd.len hd.cs
    rw [e1, e5] at hfc
    have g0 := Dat.dsL_get das i hi
    have g1 := Constructor.dsL_get (Dat.cs das[i]) t ht
    obtain ⟨c, hcc⟩ : ∃ c, c = (Dat.cs das[i])[t] := ⟨_, rfl⟩
    rw [← hcc] at g1 e3
    obtain ⟨d, hdd⟩ : ∃ d, d = das[i] := ⟨_, rfl⟩
    rw [← hdd] at g0 g1
    obtain ⟨dn, cs⟩ := d
    obtain ⟨cn, fs⟩ := c
    have hfl : (Typ.dsL fs).length = fs.length := Typ.dsL_len fs
    simp only [Dat.ds, Constructor.ds, Constructor.sl, Typ.sl, Dat.cs] at g0 g1
    simp only [f8, go_sem, ↓reduceIte, reduceCtorEq, reduceLT, reduceEqDiff, Nat.reduceBEq, reduceAdd, reduceMul, reduceSub, reduceLeDiff, reduceReplicate]
    refine callK_intro _ hfc (by simp; exact Dat.clL _) ?_
    simp only [go_sem, ↓reduceIte, reduceCtorEq, reduceLT, reduceEqDiff, Nat.reduceBEq, reduceAdd, reduceMul, reduceSub, reduceLeDiff, reduceReplicate]
    refine drawK_intro mixed (by kernel_rfl) ?_
    simp only [g0, g1, hdk, hfl, go_sem, ↓reduceIte, reduceCtorEq, reduceLT, reduceEqDiff, Nat.reduceBEq, reduceAdd, reduceMul, reduceSub, reduceLeDiff, reduceReplicate]
    have hcn : countN das (.mk k v n (.mk tk tn tks) ns ks) = decide (ks.length = fs.length) := by
      simp only [countN, c8, if_true]
      rw [e3]; rfl
    by_cases hq : ks.length = fs.length
    · have fq : (!((fs.length : Int) == (ks.length : Int))) = false := by simp [hq]
      have hft : countN das (.mk k v n (.mk tk tn tks) ns ks) = true := by rw [hcn]; exact decide_eq_true hq
      simp only [bne, fq, go_sem, ↓reduceIte, reduceCtorEq, reduceLT, reduceEqDiff, Nat.reduceBEq, reduceAdd, reduceMul, reduceSub, reduceLeDiff, reduceReplicate]
      try rw [hft, Bool.true_and]
      refine loop_count 7 ks.length (fun j => Fw.Inv 63 [(0, Dat.sl das), (1, .cp [I k, I v, S n, I tk, S tn, .sl 3 (Typ.dsL tks), .sl 1 (R ns), .sl 8 (Term.dsL ks)])] ((ks.take j).all (Term.good (countN das)) = true)) rfl ⟨rfl, by simp [Dat.sl, envOf, setE, R], by simp⟩ ?_
      rintro j ⟨env, H, n', nt, T⟩ hj h5 ⟨rfl, hfs, hp⟩
      simp only [List.forall_mem_cons, Dat.sl] at h5 hfs
      obtain ⟨e0, e1, -⟩ := hfs
      simp only [h5, e0, e1, hdk, go_sem, ↓reduceIte, reduceCtorEq, reduceLT, reduceEqDiff, Nat.reduceBEq, reduceAdd, reduceMul, reduceSub, reduceLeDiff, reduceReplicate]
      refine condK_split (fun h => ?_) (fun h => ?_)
      · have hlt : j < ks.length := by simpa using h
        have g0 := Term.dsL_get ks j hlt
        simp only [h, h5, e0, e1, g0, hdk, go_sem, ↓reduceIte, reduceCtorEq, reduceLT, reduceEqDiff, Nat.reduceBEq, reduceAdd, reduceMul, reduceSub, reduceLeDiff, reduceReplicate]
        refine callK_intro _ (hel ks[j] (List.getElem_mem hlt)) (by simp only [List.nil_append, List.append_nil, List.forall_mem_cons]; exact ⟨Dat.cl_sl _, Cl.cp' (Term.cl _), by simp⟩) ?_
        cases hq : Term.good (countN das) ks[j]
        · simp only [go_sem, ↓reduceIte, reduceCtorEq, reduceLT, reduceEqDiff, Nat.reduceBEq, reduceAdd, reduceMul, reduceSub, reduceLeDiff, reduceReplicate]
          exact Fz.bool (by rw [all_of_take hlt hq])
        · simp only [h5, go_sem, ↓reduceIte, reduceCtorEq, reduceLT, reduceEqDiff, Nat.reduceBEq, reduceAdd, reduceMul, reduceSub, reduceLeDiff, reduceReplicate]
          refine nextC_mk (by simp [setE, wrap_succ j (by omega)]) hlt ⟨rfl, by simp [setE, e0, e1, Dat.sl], by rw [all_take_succ hlt, hp, hq]; rfl⟩
      · have hj' : j = ks.length := by simp at h; omega
        subst hj'
        rw [List.take_length] at hp
        simp only [h, go_sem, ↓reduceIte, reduceCtorEq, reduceLT, reduceEqDiff, Nat.reduceBEq, reduceAdd, reduceMul, reduceSub, reduceLeDiff, reduceReplicate]
        exact Fz.bool (by rw [hp])
    · have fq : (!((fs.length : Int) == (ks.length : Int))) = true := by simp; omega
      simp only [bne, fq, go_sem, ↓reduceIte, reduceCtorEq, reduceLT, reduceEqDiff, Nat.reduceBEq, reduceAdd, reduceMul, reduceSub, reduceLeDiff, reduceReplicate]
      exact Fz.bool (by rw [hcn]; simp [hq])
  have f8 : (k == 8) = false := by simp [c8]
  simp only [f8, go_sem, ↓reduceIte, reduceCtorEq, reduceLT, reduceEqDiff, Nat.reduceBEq, reduceAdd, reduceMul, reduceSub, reduceLeDiff, reduceReplicate]
  by_cases c9 : k = 9
  · have f9 : (k == 9) = true := by simp [c9]
    obtain ⟨hk2, hk3⟩ := gdM_match hg c9
    obtain ⟨k0, k1, kr, hks⟩ : ∃ a b l, ks = a :: b :: l := by
      match ks, hk2 with
      | a :: b :: l, _ => exact ⟨a, b, l, rfl⟩
    have hc : 0 ≤ datI das (Term.nmT k1) := by
      subst hks
      refine fit_case (hf2 k1 (by simp)) (.inl ?_)
      have h2 := hk3 1 (by simp) (by omega)
      simpa using h2
    have hcf := l03CasesFit das hd k v n tk tn tks ns k0 k1 kr (by rw [hks] at hkl; simp at hkl; omega) hc
    have hcn : countN das (.mk k v n (.mk tk tn tks) ns ks) = casesN das (k1 :: kr) := by
      simp only [countN, c9, if_true, hks]
      rfl
    rw [← hks, ← hcn] at hcf
    simp only [Term.ds, Typ.ds, strs, List.cons_append, List.nil_append, Dat.sl] at hcf
    simp only [f9, go_sem, ↓reduceIte, reduceCtorEq, reduceLT, reduceEqDiff, Nat.reduceBEq, reduceAdd, reduceMul, reduceSub, reduceLeDiff, reduceReplicate]
    refine callK_intro _ hcf (by simp; exact ⟨Dat.clL _, Typ.clL _, Term.clL _⟩) ?_
    cases hft : countN das (.mk k v n (.mk tk tn tks) ns ks)
    · simp only [go_sem, ↓reduceIte, reduceCtorEq, reduceLT, reduceEqDiff, Nat.reduceBEq, reduceAdd, reduceMul, reduceSub, reduceLeDiff, reduceReplicate]
      exact Fz.bool rfl
    · simp only [go_sem, ↓reduceIte, reduceCtorEq, reduceLT, reduceEqDiff, Nat.reduceBEq, reduceAdd, reduceMul, reduceSub, reduceLeDiff, reduceReplicate]
      try rw [hft, Bool.true_and]
      refine loop_count 7 ks.length (fun j => Fw.Inv 63 [(0, Dat.sl das), (1, .cp [I k, I v, S n, I tk, S tn, .sl 3 (Typ.dsL tks), .sl 1 (R ns), .sl 8 (Term.dsL ks)])] ((ks.take j).all (Term.good (countN das)) = true)) rfl ⟨rfl, by simp [Dat.sl, envOf, setE, R], by simp⟩ ?_
      rintro j ⟨env, H, n', nt, T⟩ hj h5 ⟨rfl, hfs, hp⟩
      simp only [List.forall_mem_cons, Dat.sl] at h5 hfs
      obtain ⟨e0, e1, -⟩ := hfs
      simp only [h5, e0, e1, hdk, go_sem, ↓reduceIte, reduceCtorEq, reduceLT, reduceEqDiff, Nat.reduceBEq, reduceAdd, reduceMul, reduceSub, reduceLeDiff, reduceReplicate]
      refine condK_split (fun h => ?_) (fun h => ?_)
      · have hlt : j < ks.length := by simpa using h
        have g0 := Term.dsL_get ks j hlt
        simp only [h, h5, e0, e1, g0, hdk, go_sem, ↓reduceIte, reduceCtorEq, reduceLT, reduceEqDiff, Nat.reduceBEq, reduceAdd, reduceMul, reduceSub, reduceLeDiff, reduceReplicate]
        refine callK_intro _ (hel ks[j] (List.getElem_mem hlt)) (by simp only [List.nil_append, List.append_nil, List.forall_mem_cons]; exact ⟨Dat.cl_sl _, Cl.cp' (Term.cl _), by simp⟩) ?_
        cases hq : Term.good (countN das) ks[j]
        · simp only [go_sem, ↓reduceIte, reduceCtorEq, reduceLT, reduceEqDiff, Nat.reduceBEq, reduceAdd, reduceMul, reduceSub, reduceLeDiff, reduceReplicate]
          exact Fz.bool (by rw [all_of_take hlt hq])
        · simp only [h5, go_sem, ↓reduceIte, reduceCtorEq, reduceLT, reduceEqDiff, Nat.reduceBEq, reduceAdd, reduceMul, reduceSub, reduceLeDiff, reduceReplicate]
          refine nextC_mk (by simp [setE, wrap_succ j (by omega)]) hlt ⟨rfl, by simp [setE, e0, e1, Dat.sl], by rw [all_take_succ hlt, hp, hq]; rfl⟩
      · have hj' : j = ks.length := by simp at h; omega
        subst hj'
        rw [List.take_length] at hp
        simp only [h, go_sem, ↓reduceIte, reduceCtorEq, reduceLT, reduceEqDiff, Nat.reduceBEq, reduceAdd, reduceMul, reduceSub, reduceLeDiff, reduceReplicate]
        exact Fz.bool (by rw [hp])
  have f9 : (k == 9) = false := by simp [c9]
  have hft : countN das (.mk k v n (.mk tk tn tks) ns ks) = true := by simp [countN, c8, c9]
  simp only [f9, go_sem, ↓reduceIte, reduceCtorEq, reduceLT, reduceEqDiff, Nat.reduceBEq, reduceAdd, reduceMul, reduceSub, reduceLeDiff, reduceReplicate]
  try rw [hft, Bool.true_and]
  refine loop_count 7 ks.length (fun j => Fw.Inv 63 [(0, Dat.sl das), (1, .cp [I k, I v, S n, I tk, S tn, .sl 3 (Typ.dsL tks), .sl 1 (R ns), .sl 8 (Term.dsL ks)])] ((ks.take j).all (Term.good (countN das)) = true)) rfl ⟨rfl, by simp [Dat.sl, envOf, setE, R], by simp⟩ ?_
  rintro j ⟨env, H, n', nt, T⟩ hj h5 ⟨rfl, hfs, hp⟩
  simp only [List.forall_mem_cons, Dat.sl] at h5 hfs
  obtain ⟨e0, e1, -⟩ := hfs
  simp only [h5, e0, e1, hdk, go_sem, ↓reduceIte, reduceCtorEq, reduceLT, reduceEqDiff, Nat.reduceBEq, reduceAdd, reduceMul, reduceSub, reduceLeDiff, reduceReplicate]
  refine condK_split (fun h => ?_) (fun h => ?_)
  · have hlt : j < ks.length := by simpa using h
    have g0 := Term.dsL_get ks j hlt
    simp only [h, h5, e0, e1, g0, hdk, go_sem, ↓reduceIte, reduceCtorEq, reduceLT, reduceEqDiff, Nat.reduceBEq, reduceAdd, reduceMul, reduceSub, reduceLeDiff, reduceReplicate]
    refine callK_intro _ (hel ks[j] (List.getElem_mem hlt)) (by simp only [List.nil_append, List.append_nil, List.forall_mem_cons]; exact ⟨Dat.cl_sl _, Cl.cp' (Term.cl _), by simp⟩) ?_
    cases hq : Term.good (countN das) ks[j]
    · simp only [go_sem, ↓reduceIte, reduceCtorEq, reduceLT, reduceEqDiff, Nat.reduceBEq, reduceAdd, reduceMul, reduceSub, reduceLeDiff, reduceReplicate]
      exact Fz.bool (by rw [all_of_take hlt hq])
    · simp only [h5, go_sem, ↓reduceIte, reduceCtorEq, reduceLT, reduceEqDiff, Nat.reduceBEq, reduceAdd, reduceMul, reduceSub, reduceLeDiff, reduceReplicate]
      refine nextC_mk (by simp [setE, wrap_succ j (by omega)]) hlt ⟨rfl, by simp [setE, e0, e1, Dat.sl], by rw [all_take_succ hlt, hp, hq]; rfl⟩
  · have hj' : j = ks.length := by simp at h; omega
    subst hj'
    rw [List.take_length] at hp
    simp only [h, go_sem, ↓reduceIte, reduceCtorEq, reduceLT, reduceEqDiff, Nat.reduceBEq, reduceAdd, reduceMul, reduceSub, reduceLeDiff, reduceReplicate]
    exact Fz.bool (by rw [hp])
theorem l03CountsFit (das : List Dat) (hd : DatOk das) (t : Term) (hg : gdM t = true) (hf : Term.good (fitN das) t = true) : Sp Tryz.prog 114 [Dat.sl das, .cp t.ds] (B (Term.good (countN das) t)) := by
  match t, hg, hf with
  | .mk k v n (.mk tk tn tks) ns ks, hg, hf =>
  have hf' := hf
  rw [Term.good, Term.goodS_eq, Bool.and_eq_true, List.all_eq_true] at hf'
  exact l03CountsFit_step das hd k v n tk tn tks ns ks (gdM_len hg) hg hf fun x hx => l03CountsFit das hd x ((gdM_kids hg).2 x hx) (hf'.2 x hx)
termination_by t
decreasing_by all_goals (have := List.sizeOf_lt_of_mem hx; simp; omega)
theorem l03Free0 (t : Term) (hg : gdM t = true) (hs : t.sz ≤ 1048576) : Sp Tryz.prog 111 [.cp t.ds, .sc (.slice none 0 0), .sc (.slice none 0 0)] (.sl 1 (R (freeF t [] []))) := by
  have hn := Term.num_le_sz t
  exact ((l03Free t hg [] [] (by simp; omega) (by simp; omega)).le2 .rfl .nil).spF.sp (strs1 _)
theorem unk_split (das : List Dat) (ds : List Def) (d : Def) : unkD das ds d = (((freeF (Def.bd d) [] []).any (fun n => decide (namedF ds n < 0)) || !Typ.good (dNode das) (Def.ty d)) || !Term.good (fitN das) (Def.bd d)) := by
  rw [unkD, Bool.or_comm (!Typ.good _ _)]
open Classical in
theorem l03Names (p : Prg) (hs : p.sz ≤ 1048576) (ho : p.ok) : Sp Tryz.prog 87 [.cp p.ds] (I (codeN p)) := by
  have hvp := l03Program p hs ho
  obtain ⟨das, ds⟩ := p
  simp only [Prg.ok] at ho
  simp only [Prg.sz] at hs
  simp only [Prg.ds, Dat.sl, Def.sl] at hvp
  by_cases c0 : progP (.mk das ds)
  case neg =>
    have he : codeN (.mk das ds) = 1 := by rw [codeN, if_neg c0]
    rw [he]
    simp only [decide_eq_false c0] at hvp
    refine Sp.of_vc [] [.tmp 2] Tryz.func87 rfl (by kernel_rfl) Tryz.ntmps87 rfl (by simp) ?_
    simp only [Prg.ds, Dat.sl, Def.sl, go_sem, ↓reduceIte, reduceCtorEq, reduceLT, reduceEqDiff, Nat.reduceBEq, reduceAdd, reduceMul, reduceSub, reduceLeDiff, reduceReplicate]
    refine callK_intro _ hvp (by simp; exact ⟨Dat.clL _, Def.clL _⟩) ?_
    simp only [go_sem, ↓reduceIte, reduceCtorEq, reduceLT, reduceEqDiff, Nat.reduceBEq, reduceAdd, reduceMul, reduceSub, reduceLeDiff, reduceReplicate]
    exact Fz.int rfl
  have hdk := prog_dat c0
  have hbd := prog_bd c0
  have hdl : (Def.dsL ds).length = ds.length := Def.dsL_len ds
  have hdas : das.length ≤ maxLen := by have := hdk.len; unfold maxLen; omega
  have hds : ds.length ≤ 1048576 := by have := c0.2.2.1; omega
  have hdm : ds.length ≤ maxLen := by unfold maxLen; omega
  have hcl : ∀ d ∈ [D.sl 2 (Dat.dsL das), D.sl 12 (Def.dsL ds)], Cl d := by simp; exact ⟨Dat.clL _, Def.clL _⟩
  simp only [decide_eq_true c0] at hvp
  have h7 : ∀ d ∈ ds, unkD das ds d = true → codeN (.mk das ds) = 7 := fun d hd hu => by
    have : ds.any (unkD das ds) = true := List.any_eq_true.2 ⟨d, hd, hu⟩
    rw [codeN, if_pos c0, this]; rfl
  refine Sp.of_vc [] [.tmp 2] Tryz.func87 rfl (by kernel_rfl) Tryz.ntmps87 rfl (by simp) ?_
  simp only [Prg.ds, Dat.sl, Def.sl, go_sem, ↓reduceIte, reduceCtorEq, reduceLT, reduceEqDiff, Nat.reduceBEq, reduceAdd, reduceMul, reduceSub, reduceLeDiff, reduceReplicate]
  refine callK_intro _ hvp (by simp; exact ⟨Dat.clL _, Def.clL _⟩) ?_
  simp only [go_sem, ↓reduceIte, reduceCtorEq, reduceLT, reduceEqDiff, Nat.reduceBEq, reduceAdd, reduceMul, reduceSub, reduceLeDiff, reduceReplicate]
  refine loop_count 3 ds.length (fun j => Fw.Inv 89 [(0, .cp [.sl 2 (Dat.dsL das), .sl 12 (Def.dsL ds)])] ((ds.take j).all (fun d => !unkD das ds d) = true)) rfl ⟨rfl, by simp [envOf, setE], by simp⟩ ?_
  rintro j ⟨env, H, n', nt, T⟩ hj h5 ⟨rfl, hfs, hp⟩
  simp only [List.forall_mem_cons] at h5 hfs
  obtain ⟨e0, -⟩ := hfs
  simp only [h5, e0, hdl, go_sem, ↓reduceIte, reduceCtorEq, reduceLT, reduceEqDiff, Nat.reduceBEq, reduceAdd, reduceMul, reduceSub, reduceLeDiff, reduceReplicate]
  refine condK_split (fun h => ?_) (fun h => ?_)
  · have hlt : j < ds.length := by simpa using h
    have g0 := Def.dsL_get ds j hlt
    have hmem : ds[j] ∈ ds := List.getElem_mem hlt
    obtain ⟨hg1, hg2⟩ := hbd _ hmem
    have hz := Def.sz_mem hmem
    have hz2 := sz_bd ds[j]
    obtain ⟨hob, hot⟩ := ok_bd (ho.2.2.2 _ hmem)
    have hfr := l03Free0 (Def.bd ds[j]) hg1 (by omega)
    have hkn := l02Known das hdas (Def.ty ds[j]) hot hg2
    have hnf := l03NamesFit das hdk (Def.bd ds[j]) hg1 hob
    have hus := unk_split das ds ds[j]
    have h7d := h7 _ hmem
    have hfl := freeF_len (Def.bd ds[j]) [] []
    have hnl := Term.num_le_sz (Def.bd ds[j])
    obtain ⟨fl, hflx⟩ : ∃ fl, fl = freeF (Def.bd ds[j]) [] [] := ⟨_, rfl⟩
    rw [← hflx] at hfr hus hfl
    have hfll : fl.length ≤ 1048576 := by simp at hfl; omega
    have hstep : unkD das ds ds[j] = false → (ds.take (j + 1)).all (fun d => !unkD das ds d) = true := fun hu => by rw [all_take_succ hlt, hp, hu]; rfl
    obtain ⟨d, hdd⟩ : ∃ d, d = ds[j] := ⟨_, rfl⟩
    rw [← hdd] at g0 hfr hkn hnf hus h7d hstep
    obtain ⟨dn, ⟨tk, tn, tks⟩, ⟨bk, bv, bn, ⟨uk, un, uks⟩, ns, ks⟩⟩ := d
    simp only [Def.bd, Def.ty] at hfr hkn hnf hus
    simp only [Def.ds, Term.ds, Typ.ds, strs, Dat.sl, List.cons_append, List.nil_append] at g0 hfr hkn hnf
    simp only [h, h5, e0, g0, go_sem, ↓reduceIte, reduceCtorEq, reduceLT, reduceEqDiff, Nat.reduceBEq, reduceAdd, reduceMul, reduceSub, reduceLeDiff, reduceReplicate]
    refine callK_intro _ hfr (by simp; exact ⟨Typ.clL _, Term.clL _⟩) ?_
    simp only [go_sem, ↓reduceIte, reduceCtorEq, reduceLT, reduceEqDiff, Nat.reduceBEq, reduceAdd, reduceMul, reduceSub, reduceLeDiff, reduceReplicate]
    refine loop_count 6 fl.length (fun k => Fw.Inv 89 [(0, .cp [.sl 2 (Dat.dsL das), .sl 12 (Def.dsL ds)]), (3, I j), (4, .cp ([S dn, I tk, S tn, .sl 3 (Typ.dsL tks), I bk, I bv, S bn, I uk, S un, .sl 3 (Typ.dsL uks), .sl 1 (R ns), .sl 8 (Term.dsL ks)])), (5, .sl 1 (R fl))] ((fl.take k).all (fun n => !decide (namedF ds n < 0)) = true)) rfl ⟨rfl, by simp [setE, e0, h5, R], by simp⟩ ?_
    rintro k ⟨env2, H2, n2, nt2, T2⟩ hk k5 ⟨rfl, kfs, kp⟩
    simp only [List.forall_mem_cons] at k5 kfs
    obtain ⟨k0, k1, k2, k3, -⟩ := kfs
    simp only [k5, k0, k1, k2, k3, List.length_map, go_sem, ↓reduceIte, reduceCtorEq, reduceLT, reduceEqDiff, Nat.reduceBEq, reduceAdd, reduceMul, reduceSub, reduceLeDiff, reduceReplicate]
    refine condK_split (fun h => ?_) (fun h => ?_)
    · have klt : k < fl.length := by simpa using h
      have g1 : (R fl)[k]? = some [S fl[k]] := by simp [R, klt]
      have hnm := l03Named ds fl[k] hdm
      simp only [Def.sl] at hnm
      simp only [h, go_sem, ↓reduceIte, reduceCtorEq, reduceLT, reduceEqDiff, Nat.reduceBEq, reduceAdd, reduceMul, reduceSub, reduceLeDiff, reduceReplicate]
      refine drawK_intro mixed (by kernel_rfl) ?_
      simp only [k5, k0, k1, k2, k3, g1, List.length_map, go_sem, ↓reduceIte, reduceCtorEq, reduceLT, reduceEqDiff, Nat.reduceBEq, reduceAdd, reduceMul, reduceSub, reduceLeDiff, reduceReplicate]
      refine callQ_intro _ hnm (by simp; exact Def.clL _) rfl ?_
      simp only [go_sem, ↓reduceIte, reduceCtorEq, reduceLT, reduceEqDiff, Nat.reduceBEq, reduceAdd, reduceMul, reduceSub, reduceLeDiff, reduceReplicate]
      refine condK_split (fun h => ?_) (fun h => ?_)
      · have hng : namedF ds fl[k] < 0 := by simpa using h
        simp only [h, go_sem, ↓reduceIte, reduceCtorEq, reduceLT, reduceEqDiff, Nat.reduceBEq, reduceAdd, reduceMul, reduceSub, reduceLeDiff, reduceReplicate]
        refine Fz.int ?_
        rw [h7d]
        rw [hus]
        have : fl.any (fun n => decide (namedF ds n < 0)) = true := List.any_eq_true.2 ⟨fl[k], List.getElem_mem klt, by simpa using hng⟩
        rw [this]; rfl
      · simp only [h, k5, go_sem, ↓reduceIte, reduceCtorEq, reduceLT, reduceEqDiff, Nat.reduceBEq, reduceAdd, reduceMul, reduceSub, reduceLeDiff, reduceReplicate]
        refine nextC_mk (by simp [setE, wrap_succ k (by omega)]) klt ⟨rfl, by simp [setE, k0, k1, k2, k3], ?_⟩
        rw [all_take_succ klt, kp, h]; rfl
    · have hk' : k = fl.length := by simp at h; omega
      have kall : fl.any (fun n => decide (namedF ds n < 0)) = false := by
        rw [hk', List.take_length] at kp
        rw [List.any_eq_false]
        intro x hx
        have := List.all_eq_true.1 kp x hx
        simpa using this
      rw [kall, Bool.false_or] at hus
      simp only [h, go_sem, ↓reduceIte, reduceCtorEq, reduceLT, reduceEqDiff, Nat.reduceBEq, reduceAdd, reduceMul, reduceSub, reduceLeDiff, reduceReplicate]
      refine drawK_intro mixed (by kernel_rfl) ?_
      simp only [k5, k0, k1, k2, k3, List.length_map, go_sem, ↓reduceIte, reduceCtorEq, reduceLT, reduceEqDiff, Nat.reduceBEq, reduceAdd, reduceMul, reduceSub, reduceLeDiff, reduceReplicate]
      refine callQ_intro _ hkn (by simp; exact ⟨Dat.clL _, Typ.clL _⟩) rfl ?_
      cases q1 : Typ.good (dNode das) (.mk tk tn tks)
      · simp only [go_sem, ↓reduceIte, reduceCtorEq, reduceLT, reduceEqDiff, Nat.reduceBEq, reduceAdd, reduceMul, reduceSub, reduceLeDiff, reduceReplicate]
        refine Fz.int ?_
        rw [h7d]
        rw [hus, q1]; rfl
      rw [q1] at hus
      simp only [k5, k0, k1, k2, k3, List.length_map, go_sem, ↓reduceIte, reduceCtorEq, reduceLT, reduceEqDiff, Nat.reduceBEq, reduceAdd, reduceMul, reduceSub, reduceLeDiff, reduceReplicate]
      refine callQ_intro _ hnf (by simp; exact ⟨Dat.clL _, Typ.clL _, Term.clL _⟩) rfl ?_
      cases q2 : Term.good (fitN das) (.mk bk bv bn (.mk uk un uks) ns ks)
      · simp only [go_sem, ↓reduceIte, reduceCtorEq, reduceLT, reduceEqDiff, Nat.reduceBEq, reduceAdd, reduceMul, reduceSub, reduceLeDiff, reduceReplicate]
        refine Fz.int ?_
        rw [h7d]
        rw [hus, q2]; rfl
      rw [q2] at hus
      simp only [k1, go_sem, ↓reduceIte, reduceCtorEq, reduceLT, reduceEqDiff, Nat.reduceBEq, reduceAdd, reduceMul, reduceSub, reduceLeDiff, reduceReplicate]
      refine nextC_mk (by simp [setE, k1, wrap_succ j (by omega)]) hlt ⟨rfl, by simp [setE, k0, k1, k2, k3], hstep (by rw [hus]; rfl)⟩
  · have hj' : j = ds.length := by simp at h; omega
    have hany : ds.any (unkD das ds) = false := by
      rw [hj', List.take_length] at hp
      rw [List.any_eq_false]
      intro x hx
      have := List.all_eq_true.1 hp x hx
      simpa using this
    have hfit : ∀ d ∈ ds, Term.good (fitN das) (Def.bd d) = true := fun d hd => by
      have := List.any_eq_false.1 hany d hd
      rw [unk_split] at this
      simp only [Bool.or_eq_true, not_or, Bool.not_eq_true'] at this
      simpa using this.2
    have he : codeN (.mk das ds) = if ds.any (fun d => !Term.good (countN das) (Def.bd d)) then 2 else 0 := by rw [codeN, if_pos c0, hany]; rfl
    rw [he]
    simp only [h, go_sem, ↓reduceIte, reduceCtorEq, reduceLT, reduceEqDiff, Nat.reduceBEq, reduceAdd, reduceMul, reduceSub, reduceLeDiff, reduceReplicate]
    refine loop_count 7 ds.length (fun k => Fw.Inv 89 [(0, .cp [.sl 2 (Dat.dsL das), .sl 12 (Def.dsL ds)])] ((ds.take k).all (fun d => Term.good (countN das) (Def.bd d)) = true)) rfl ⟨rfl, by simp [setE, e0], by simp⟩ ?_
    rintro k ⟨env2, H2, n2, nt2, T2⟩ hk k5 ⟨rfl, kfs, kp⟩
    simp only [List.forall_mem_cons] at k5 kfs
    obtain ⟨k0, -⟩ := kfs
    simp only [k5, k0, hdl, go_sem, ↓reduceIte, reduceCtorEq, reduceLT, reduceEqDiff, Nat.reduceBEq, reduceAdd, reduceMul, reduceSub, reduceLeDiff, reduceReplicate]
    refine condK_split (fun h => ?_) (fun h => ?_)
    · have klt : k < ds.length := by simpa using h
      have g0 := Def.dsL_get ds k klt
      have hmem : ds[k] ∈ ds := List.getElem_mem klt
      have hcf := l03CountsFit das hdk (Def.bd ds[k]) (hbd _ hmem).1 (hfit _ hmem)
      obtain ⟨d, hdd⟩ : ∃ d, d = ds[k] := ⟨_, rfl⟩
      have hall : Term.good (countN das) (Def.bd d) = false → ds.any (fun d => !Term.good (countN das) (Def.bd d)) = true := fun hq => List.any_eq_true.2 ⟨ds[k], hmem, by rw [← hdd, hq]; rfl⟩
      have hstep : Term.good (countN das) (Def.bd d) = true → (ds.take (k + 1)).all (fun d => Term.good (countN das) (Def.bd d)) = true := fun hu => by rw [all_take_succ klt, kp, ← hdd, hu]; rfl
      rw [← hdd] at g0 hcf
      obtain ⟨dn, ⟨tk, tn, tks⟩, ⟨bk, bv, bn, ⟨uk, un, uks⟩, ns, ks⟩⟩ := d
      simp only [Def.bd] at hcf
      simp only [Def.ds, Term.ds, Typ.ds, strs, Dat.sl, List.cons_append, List.nil_append] at g0 hcf
      simp only [h, go_sem, ↓reduceIte, reduceCtorEq, reduceLT, reduceEqDiff, Nat.reduceBEq, reduceAdd, reduceMul, reduceSub, reduceLeDiff, reduceReplicate]
      refine drawK_intro mixed (by kernel_rfl) ?_
      simp only [k5, k0, g0, hdl, go_sem, ↓reduceIte, reduceCtorEq, reduceLT, reduceEqDiff, Nat.reduceBEq, reduceAdd, reduceMul, reduceSub, reduceLeDiff, reduceReplicate]
      refine callQ_intro _ hcf (by simp; exact ⟨Dat.clL _, Typ.clL _, Term.clL _⟩) rfl ?_
      cases q2 : Term.good (countN das) (.mk bk bv bn (.mk uk un uks) ns ks)
      · simp only [go_sem, ↓reduceIte, reduceCtorEq, reduceLT, reduceEqDiff, Nat.reduceBEq, reduceAdd, reduceMul, reduceSub, reduceLeDiff, reduceReplicate]
        refine Fz.int ?_
        rw [hall q2]; rfl
      · simp only [k5, go_sem, ↓reduceIte, reduceCtorEq, reduceLT, reduceEqDiff, Nat.reduceBEq, reduceAdd, reduceMul, reduceSub, reduceLeDiff, reduceReplicate]
        refine nextC_mk (by simp [setE, wrap_succ k (by omega)]) klt ⟨rfl, by simp [setE, k0], hstep q2⟩
    · have hk' : k = ds.length := by simp at h; omega
      have hany2 : ds.any (fun d => !Term.good (countN das) (Def.bd d)) = false := by
        rw [hk', List.take_length] at kp
        rw [List.any_eq_false]
        intro x hx
        have := List.all_eq_true.1 kp x hx
        simpa using this
      simp only [h, go_sem, ↓reduceIte, reduceCtorEq, reduceLT, reduceEqDiff, Nat.reduceBEq, reduceAdd, reduceMul, reduceSub, reduceLeDiff, reduceReplicate]
      exact Fz.int (by rw [hany2]; rfl)
end Go.Proofs.YtcidmkcicagpaaaGreat
