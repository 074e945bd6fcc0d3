/-
  Contracts over data of declarations, of the program and of the reference. No condition.
-/
import Derived.Test.YtcidmkcicagpaaaGreatP6
namespace Go.Proofs.YtcidmkcicagpaaaGreat
open Go.Fw
open Nat (reduceLT reduceEqDiff reduceAdd reduceMul reduceSub reduceLeDiff)
open List (reduceReplicate)
set_option maxRecDepth 100000
set_option linter.unusedSimpArgs false
set_option linter.unusedVariables false
theorem indexFuncTyp (l : List Typ) (p : Typ → Bool) (f : FuncId) (first caps : List D) (hl : l.length ≤ maxLen) (hf : ∀ d ∈ first, Cl d) (hc : ∀ d ∈ caps, Cl d)
    (hel : ∀ x ∈ l, Sp Tryz.prog f (first ++ [.ag x.ds] ++ caps) (B (p x))) : Sp Tryz.prog 168 [Typ.sl l, .fn f first caps] (I (idxF p l)) := by
  unfold maxLen at hl
  have hda : (Typ.dsL l).length = l.length := Typ.dsL_len l
  refine Sp.of_vc [] [.tmp 4] Tryz.func168 rfl (by kernel_rfl) Tryz.ntmps168 rfl (by simp) ?_
  simp only [go_sem, ↓reduceIte, reduceCtorEq, reduceLT, reduceEqDiff, Nat.reduceBEq, reduceAdd, reduceMul, reduceSub, reduceLeDiff, reduceReplicate, hda]
  refine loop_count 8 l.length (fun k => Fw.Inv 19 [(0, Typ.sl l), (1, .fn f first caps), (7, I l.length)] ((l.take k).any p = false)) rfl ⟨rfl, by simp [Typ.sl, envOf, setE], by simp⟩ ?_
  rintro k ⟨env, H, n, nt, T⟩ hk h5 ⟨rfl, hfs, hp⟩
  simp only [List.forall_mem_cons, Typ.sl] at h5 hfs
  obtain ⟨e0, e1, e2, -⟩ := hfs
  simp only [h5, e2, hda, go_sem, ↓reduceIte, reduceCtorEq, reduceLT, reduceEqDiff, Nat.reduceBEq, reduceAdd, reduceMul, reduceSub, reduceLeDiff, reduceReplicate]
  refine condK_split (fun h => ?_) (fun h => ?_)
  · have hlt : k < l.length := by simpa using h
    have g0 := Typ.dsL_get l k hlt
    have hd0 := Typ.ds_len l[k]
    have ht0 : List.take 3 l[k].ds = l[k].ds := List.take_of_length_le (by omega)
    have ho0 : (l[k].ds).all oneD = true := by rw [List.all_eq_true]; exact Typ.one l[k]
    simp only [h, h5, e0, e1, e2, g0, hd0, ht0, ho0, List.take_zero, List.nil_append, go_sem, ↓reduceIte, reduceCtorEq, reduceLT, reduceEqDiff, Nat.reduceBEq, reduceAdd, reduceMul, reduceSub, reduceLeDiff, reduceReplicate]
    refine callK_intro _ (hel l[k] (List.getElem_mem hlt)) (by simp only [List.forall_mem_append, List.forall_mem_cons]; exact ⟨⟨hf, Cl.ag' (Typ.cl _), by simp⟩, hc⟩) ?_
    cases hc : p l[k]
    · simp only [hc, h5, go_sem, ↓reduceIte, reduceCtorEq, reduceLT, reduceEqDiff, Nat.reduceBEq, reduceAdd, reduceMul, reduceSub, reduceLeDiff, reduceReplicate]
      refine nextC_mk (by simp [setE, wrap_succ k (by omega)]) hlt ⟨rfl, by simp [setE, e0, e1, e2, Typ.sl], ?_⟩
      rw [any_take_succ hlt, hp, hc]; rfl
    · simp only [hc, go_sem, ↓reduceIte, reduceCtorEq, reduceLT, reduceEqDiff, Nat.reduceBEq, reduceAdd, reduceMul, reduceSub, reduceLeDiff, reduceReplicate]
      exact Fz.int (idxF_hit hlt hp hc).symm
  · have hk' : k = l.length := by simp at h; omega
    simp only [h, go_sem, ↓reduceIte, reduceCtorEq, reduceLT, reduceEqDiff, Nat.reduceBEq, reduceAdd, reduceMul, reduceSub, reduceLeDiff, reduceReplicate]
    refine Fz.int ?_
    rw [hk', List.take_length] at hp
    exact (idxF_none hp).symm
theorem containsFuncTyp (l : List Typ) (p : Typ → Bool) (f : FuncId) (first caps : List D) (hl : l.length ≤ maxLen) (hf : ∀ d ∈ first, Cl d) (hc : ∀ d ∈ caps, Cl d)
    (hel : ∀ x ∈ l, Sp Tryz.prog f (first ++ [.ag x.ds] ++ caps) (B (p x))) : Sp Tryz.prog 133 [Typ.sl l, .fn f first caps] (B (l.any p)) := by
  refine Sp.of_vc [] [.tmp 4] Tryz.func133 rfl (by kernel_rfl) Tryz.ntmps133 rfl (by simp) ?_
  simp only [go_sem, ↓reduceIte, reduceCtorEq, reduceLT, reduceEqDiff, Nat.reduceBEq, reduceAdd, reduceMul, reduceSub, reduceLeDiff, reduceReplicate]
  refine callK_intro _ (indexFuncTyp l p f first caps hl hf hc hel) (by simp only [List.nil_append, List.append_nil, List.forall_mem_cons]; exact ⟨Typ.cl_sl l, Cl.fn' hf hc, by simp⟩) ?_
  simp only [go_sem, ↓reduceIte, reduceCtorEq, reduceLT, reduceEqDiff, Nat.reduceBEq, reduceAdd, reduceMul, reduceSub, reduceLeDiff, reduceReplicate]
  exact Fz.bool (idxF_any l)
theorem indexFuncDat (l : List Dat) (p : Dat → Bool) (f : FuncId) (first caps : List D) (hl : l.length ≤ maxLen) (hf : ∀ d ∈ first, Cl d) (hc : ∀ d ∈ caps, Cl d)
    (hel : ∀ x ∈ l, Sp Tryz.prog f (first ++ [.ag x.ds] ++ caps) (B (p x))) : Sp Tryz.prog 131 [Dat.sl l, .fn f first caps] (I (idxF p l)) := by
  unfold maxLen at hl
  have hda : (Dat.dsL l).length = l.length := Dat.dsL_len l
  refine Sp.of_vc [] [.tmp 4] Tryz.func131 rfl (by kernel_rfl) Tryz.ntmps131 rfl (by simp) ?_
  simp only [go_sem, ↓reduceIte, reduceCtorEq, reduceLT, reduceEqDiff, Nat.reduceBEq, reduceAdd, reduceMul, reduceSub, reduceLeDiff, reduceReplicate, hda]
  refine loop_count 8 l.length (fun k => Fw.Inv 19 [(0, Dat.sl l), (1, .fn f first caps), (7, I l.length)] ((l.take k).any p = false)) rfl ⟨rfl, by simp [Dat.sl, envOf, setE], by simp⟩ ?_
  rintro k ⟨env, H, n, nt, T⟩ hk h5 ⟨rfl, hfs, hp⟩
  simp only [List.forall_mem_cons, Dat.sl] at h5 hfs
  obtain ⟨e0, e1, e2, -⟩ := hfs
  simp only [h5, e2, hda, go_sem, ↓reduceIte, reduceCtorEq, reduceLT, reduceEqDiff, Nat.reduceBEq, reduceAdd, reduceMul, reduceSub, reduceLeDiff, reduceReplicate]
  refine condK_split (fun h => ?_) (fun h => ?_)
  · have hlt : k < l.length := by simpa using h
    have g0 := Dat.dsL_get l k hlt
    have hd0 := Dat.ds_len l[k]
    have ht0 : List.take 2 l[k].ds = l[k].ds := List.take_of_length_le (by omega)
    have ho0 : (l[k].ds).all oneD = true := by rw [List.all_eq_true]; exact Dat.one l[k]
    simp only [h, h5, e0, e1, e2, g0, hd0, ht0, ho0, List.take_zero, List.nil_append, go_sem, ↓reduceIte, reduceCtorEq, reduceLT, reduceEqDiff, Nat.reduceBEq, reduceAdd, reduceMul, reduceSub, reduceLeDiff, reduceReplicate]
    refine callK_intro _ (hel l[k] (List.getElem_mem hlt)) (by simp only [List.forall_mem_append, List.forall_mem_cons]; exact ⟨⟨hf, Cl.ag' (Dat.cl _), by simp⟩, hc⟩) ?_
    cases hc : p l[k]
    · simp only [hc, h5, go_sem, ↓reduceIte, reduceCtorEq, reduceLT, reduceEqDiff, Nat.reduceBEq, reduceAdd, reduceMul, reduceSub, reduceLeDiff, reduceReplicate]
      refine nextC_mk (by simp [setE, wrap_succ k (by omega)]) hlt ⟨rfl, by simp [setE, e0, e1, e2, Dat.sl], ?_⟩
      rw [any_take_succ hlt, hp, hc]; rfl
    · simp only [hc, go_sem, ↓reduceIte, reduceCtorEq, reduceLT, reduceEqDiff, Nat.reduceBEq, reduceAdd, reduceMul, reduceSub, reduceLeDiff, reduceReplicate]
      exact Fz.int (idxF_hit hlt hp hc).symm
  · have hk' : k = l.length := by simp at h; omega
    simp only [h, go_sem, ↓reduceIte, reduceCtorEq, reduceLT, reduceEqDiff, Nat.reduceBEq, reduceAdd, reduceMul, reduceSub, reduceLeDiff, reduceReplicate]
    refine Fz.int ?_
    rw [hk', List.take_length] at hp
    exact (idxF_none hp).symm
def Dat.nm : Dat → ByteArray
  | .mk n _ => n
def Dat.cs : Dat → List Constructor
  | .mk _ c => c
def Constructor.nm : Constructor → ByteArray
  | .mk n _ => n
def Constructor.fs : Constructor → List Typ
  | .mk _ f => f
def namedI (ds : List Dat) (n : ByteArray) : Int := idxF (fun d => decide (Dat.nm d = n)) ds
def dNode (ds : List Dat) : Typ → Bool
  | .mk k n _ => !(decide (k = 2) && decide (namedI ds n < 0))
def conF (ds : List Dat) (c : Constructor) : Bool := upB (Constructor.nm c) && decide ((Constructor.fs c).length ≤ 3) && (Constructor.fs c).all fun t => tyF t && Typ.good (dNode ds) t
theorem findData1 (d : Dat) (n : ByteArray) : Sp Tryz.prog 132 [.ag d.ds, .cp [S n]] (B (decide (Dat.nm d = n))) := by
  obtain ⟨dn, dc⟩ := d
  refine Sp.of_vc [] [.tmp 3] Tryz.func132 rfl (by kernel_rfl) Tryz.ntmps132 rfl (by simp) ?_
  simp only [Dat.ds, go_sem, ↓reduceIte, reduceCtorEq, reduceLT, reduceEqDiff, Nat.reduceBEq, reduceAdd, reduceMul, reduceSub, reduceLeDiff, reduceReplicate]
  exact Fz.bool (by rw [bytes_eq]; rfl)
theorem findData (ds : List Dat) (n : ByteArray) (hl : ds.length ≤ maxLen) : Sp Tryz.prog 103 [Dat.sl ds, S n] (I (namedI ds n)) := by
  refine Sp.of_vc [] [.tmp 4] Tryz.func103 rfl (by kernel_rfl) Tryz.ntmps103 rfl (by simp) ?_
  simp only [go_sem, ↓reduceIte, reduceCtorEq, reduceLT, reduceEqDiff, Nat.reduceBEq, reduceAdd, reduceMul, reduceSub, reduceLeDiff, reduceReplicate]
  refine callK_intro _ (indexFuncDat ds (fun d => decide (Dat.nm d = n)) _ [] [.cp [S n]] hl (by simp) (by simp) (fun d _ => by simpa using findData1 d n)) (by simp; exact Dat.clL _) ?_
  simp only [go_sem, ↓reduceIte, reduceCtorEq, reduceLT, reduceEqDiff, Nat.reduceBEq, reduceAdd, reduceMul, reduceSub, reduceLeDiff, reduceReplicate]
  exact Fz.int rfl
theorem l02Named (ds : List Dat) (v : ByteArray) (hl : ds.length ≤ maxLen) : Sp Tryz.prog 96 [Dat.sl ds, S v] (I (namedI ds v)) := by
  unfold maxLen at hl
  have hda : (Dat.dsL ds).length = ds.length := Dat.dsL_len ds
  refine Sp.of_vc [] [.tmp 4] Tryz.func96 rfl (by kernel_rfl) Tryz.ntmps96 rfl (by simp) ?_
  simp only [go_sem, ↓reduceIte, reduceCtorEq, reduceLT, reduceEqDiff, Nat.reduceBEq, reduceAdd, reduceMul, reduceSub, reduceLeDiff, reduceReplicate, hda]
  refine loop_count 5 ds.length (fun k => Fw.Inv 20 [(0, Dat.sl ds), (1, S v)] ((ds.take k).any (fun d => decide (Dat.nm d = v)) = false)) rfl ⟨rfl, by simp [Dat.sl, envOf, setE], by simp⟩ ?_
  rintro k ⟨env, H, n, nt, T⟩ hk h5 ⟨rfl, hfs, hp⟩
  simp only [List.forall_mem_cons, Dat.sl] at h5 hfs
  obtain ⟨e0, e1, -⟩ := hfs
  simp only [h5, e0, e1, hda, go_sem, ↓reduceIte, reduceCtorEq, reduceLT, reduceEqDiff, Nat.reduceBEq, reduceAdd, reduceMul, reduceSub, reduceLeDiff, reduceReplicate]
  refine condK_split (fun h => ?_) (fun h => ?_)
  · have hlt : k < ds.length := by simpa using h
    have g0 := Dat.dsL_get ds k hlt
    obtain ⟨d, hd⟩ : ∃ d, d = ds[k] := ⟨_, rfl⟩
    have hs := any_take_succ (p := fun d => decide (Dat.nm d = v)) hlt
    have hh := @idxF_hit Dat (fun d => decide (Dat.nm d = v)) ds k hlt hp
    rw [← hd] at g0 hs hh
    obtain ⟨dn, dc⟩ := d
    simp only [Dat.ds, List.cons_append, List.nil_append] at g0
    simp only [h, h5, e0, e1, g0, go_sem, ↓reduceIte, reduceCtorEq, reduceLT, reduceEqDiff, Nat.reduceBEq, reduceAdd, reduceMul, reduceSub, reduceLeDiff, reduceReplicate]
    by_cases hc : dn = v
    · have f1 : (dn.toList == v.toList) = true := by rw [bytes_eq]; exact decide_eq_true hc
      simp only [f1, h5, go_sem, ↓reduceIte, reduceCtorEq, reduceLT, reduceEqDiff, Nat.reduceBEq, reduceAdd, reduceMul, reduceSub, reduceLeDiff, reduceReplicate]
      exact Fz.int (hh (by simp [Dat.nm, hc])).symm
    · have f1 : (dn.toList == v.toList) = false := by rw [bytes_eq]; exact decide_eq_false hc
      simp only [f1, h5, go_sem, ↓reduceIte, reduceCtorEq, reduceLT, reduceEqDiff, Nat.reduceBEq, reduceAdd, reduceMul, reduceSub, reduceLeDiff, reduceReplicate]
      refine nextC_mk (by simp [setE, wrap_succ k (by omega)]) hlt ⟨rfl, by simp [setE, e0, e1, Dat.sl], ?_⟩
      rw [hs, hp]; simp [Dat.nm, hc]
  · have hk' : k = ds.length := by simp at h; omega
    simp only [h, go_sem, ↓reduceIte, reduceCtorEq, reduceLT, reduceEqDiff, Nat.reduceBEq, reduceAdd, reduceMul, reduceSub, reduceLeDiff, reduceReplicate]
    refine Fz.int ?_
    rw [hk', List.take_length] at hp
    exact (idxF_none hp).symm
theorem named_neg (ds : List Dat) (n : ByteArray) : decide (namedI ds n < 0) = !(ds.any fun d => decide (Dat.nm d = n)) := by
  rw [← idxF_any]; show decide (idxF _ ds < 0) = !decide (idxF _ ds ≥ 0)
  by_cases h : idxF (fun d => decide (Dat.nm d = n)) ds < 0
  · simp [h]
  · simp [h]; omega
theorem declared_step (ds : List Dat) (hdl : ds.length ≤ maxLen) (k : Int) (n : ByteArray) (ks : List Typ) (hl : ks.length ≤ maxLen) (hel : ∀ x ∈ ks, Sp Tryz.prog 135 [Dat.sl ds, .ag x.ds] (B (Typ.good (dNode ds) x))) :
    Sp Tryz.prog 135 [Dat.sl ds, .ag (Typ.ds (.mk k n ks))] (B (Typ.good (dNode ds) (.mk k n ks))) := by
  have hgd : Typ.good (dNode ds) (.mk k n ks) = (dNode ds (.mk k n ks) && ks.all (Typ.good (dNode ds))) := by rw [Typ.good, Typ.goodS_eq]
  have hclo : ∀ x ∈ ks, Sp Tryz.prog 169 ([] ++ [.ag x.ds] ++ [.cp [Dat.sl ds]]) (B (!Typ.good (dNode ds) x)) := fun x hx => by
    have hd0 := Typ.ds_len x
    have ht0 : List.take 3 x.ds = x.ds := List.take_of_length_le (by omega)
    have ho0 : (x.ds).all oneD = true := by rw [List.all_eq_true]; exact Typ.one x
    simp only [List.nil_append, List.cons_append]
    refine Sp.of_vc [] [.tmp 3] Tryz.func169 rfl (by kernel_rfl) Tryz.ntmps169 rfl (by simp) ?_
    simp only [hd0, ht0, ho0, List.take_zero, List.nil_append, go_sem, ↓reduceIte, reduceCtorEq, reduceLT, reduceEqDiff, Nat.reduceBEq, reduceAdd, reduceMul, reduceSub, reduceLeDiff, reduceReplicate]
    refine callK_intro _ (hel x hx) (by simp only [List.nil_append, List.append_nil, List.forall_mem_cons]; exact ⟨Dat.cl_sl _, Cl.ag' (Typ.cl x), by simp⟩) ?_
    simp only [go_sem, ↓reduceIte, reduceCtorEq, reduceLT, reduceEqDiff, Nat.reduceBEq, reduceAdd, reduceMul, reduceSub, reduceLeDiff, reduceReplicate]
    exact Fz.bool rfl
  have rest : ∀ b : Bool, True := fun _ => trivial
  refine Sp.of_vc [] [.tmp 4] Tryz.func135 rfl (by kernel_rfl) Tryz.ntmps135 rfl (by simp) ?_
  simp only [Typ.ds, go_sem, ↓reduceIte, reduceCtorEq, reduceLT, reduceEqDiff, Nat.reduceBEq, reduceAdd, reduceMul, reduceSub, reduceLeDiff, reduceReplicate]
  by_cases c1 : k = 2
  · have f1 : (k == 2) = true := by simp [c1]
    simp only [f1, go_sem, ↓reduceIte, reduceCtorEq, reduceLT, reduceEqDiff, Nat.reduceBEq, reduceAdd, reduceMul, reduceSub, reduceLeDiff, reduceReplicate]
    refine callK_intro _ (findData ds n hdl) (by simp only [List.nil_append, List.append_nil, List.forall_mem_cons]; exact ⟨Dat.cl_sl _, cl_sc _, by simp⟩) ?_
    cases c2 : decide (namedI ds n < 0)
    case true =>
      simp only [c2, go_sem, ↓reduceIte, reduceCtorEq, reduceLT, reduceEqDiff, Nat.reduceBEq, reduceAdd, reduceMul, reduceSub, reduceLeDiff, reduceReplicate]
      exact Fz.bool (by rw [hgd]; simp only [dNode, c1, c2, decide_true, Bool.and_true, Bool.not_true, Bool.false_and])
    simp only [c2, go_sem, ↓reduceIte, reduceCtorEq, reduceLT, reduceEqDiff, Nat.reduceBEq, reduceAdd, reduceMul, reduceSub, reduceLeDiff, reduceReplicate]
    refine callK_intro _ (containsFuncTyp ks (fun x => !Typ.good (dNode ds) x) _ [] [.cp [Dat.sl ds]] hl (by simp) (by simp) hclo) (by simp only [List.nil_append, List.append_nil, List.forall_mem_cons]; exact ⟨Typ.cl_sl _, Cl.fn' (by simp) (by simp; exact Dat.clL _), by simp⟩) ?_
    simp only [go_sem, ↓reduceIte, reduceCtorEq, reduceLT, reduceEqDiff, Nat.reduceBEq, reduceAdd, reduceMul, reduceSub, reduceLeDiff, reduceReplicate]
    exact Fz.bool (by rw [hgd, not_any_not]; simp only [dNode, c1, c2, Bool.and_false, Bool.not_false, Bool.true_and])
  · have f1 : (k == 2) = false := by simp [c1]
    simp only [f1, go_sem, ↓reduceIte, reduceCtorEq, reduceLT, reduceEqDiff, Nat.reduceBEq, reduceAdd, reduceMul, reduceSub, reduceLeDiff, reduceReplicate]
    refine callK_intro _ (containsFuncTyp ks (fun x => !Typ.good (dNode ds) x) _ [] [.cp [Dat.sl ds]] hl (by simp) (by simp) hclo) (by simp only [List.nil_append, List.append_nil, List.forall_mem_cons]; exact ⟨Typ.cl_sl _, Cl.fn' (by simp) (by simp; exact Dat.clL _), by simp⟩) ?_
    simp only [go_sem, ↓reduceIte, reduceCtorEq, reduceLT, reduceEqDiff, Nat.reduceBEq, reduceAdd, reduceMul, reduceSub, reduceLeDiff, reduceReplicate]
    exact Fz.bool (by rw [hgd, not_any_not]; simp [dNode, c1])
theorem declared (ds : List Dat) (hdl : ds.length ≤ maxLen) (t : Typ) (ho : t.ok) : Sp Tryz.prog 135 [Dat.sl ds, .ag t.ds] (B (Typ.good (dNode ds) t)) := by
  match t, ho with
  | .mk k n ks, ho =>
  simp only [Typ.ok] at ho
  exact declared_step ds hdl k n ks ho.2.1 fun x hx => declared ds hdl x (Typ.okS_mem ho.2.2 x hx)
termination_by t
decreasing_by all_goals (have := List.sizeOf_lt_of_mem hx; simp; omega)
theorem l02Known_step (ds : List Dat) (hdl : ds.length ≤ maxLen) (k : Int) (n : ByteArray) (ks : List Typ) (hl : ks.length ≤ maxLen) (hk2 : k = 2 → ks = []) (hel : ∀ x ∈ ks, Sp Tryz.prog 112 [Dat.sl ds, .ag x.ds] (B (Typ.good (dNode ds) x))) :
    Sp Tryz.prog 112 [Dat.sl ds, .ag (Typ.ds (.mk k n ks))] (B (Typ.good (dNode ds) (.mk k n ks))) := by
  unfold maxLen at hl
  have hda : (Typ.dsL ks).length = ks.length := Typ.dsL_len ks
  have hgd : Typ.good (dNode ds) (.mk k n ks) = (dNode ds (.mk k n ks) && ks.all (Typ.good (dNode ds))) := by rw [Typ.good, Typ.goodS_eq]
  refine Sp.of_vc [] [.tmp 4] Tryz.func112 rfl (by kernel_rfl) Tryz.ntmps112 rfl (by simp) ?_
  simp only [Typ.ds, hda, go_sem, ↓reduceIte, reduceCtorEq, reduceLT, reduceEqDiff, Nat.reduceBEq, reduceAdd, reduceMul, reduceSub, reduceLeDiff, reduceReplicate]
  by_cases c1 : k = 2
  · have f1 : (k == 2) = true := by simp [c1]
    simp only [f1, go_sem, ↓reduceIte, reduceCtorEq, reduceLT, reduceEqDiff, Nat.reduceBEq, reduceAdd, reduceMul, reduceSub, reduceLeDiff, reduceReplicate]
    refine callK_intro _ (l02Named ds n hdl) (by simp only [List.nil_append, List.append_nil, List.forall_mem_cons]; exact ⟨Dat.cl_sl _, cl_sc _, by simp⟩) ?_
    simp only [go_sem, ↓reduceIte, reduceCtorEq, reduceLT, reduceEqDiff, Nat.reduceBEq, reduceAdd, reduceMul, reduceSub, reduceLeDiff, reduceReplicate]
    refine Fz.bool ?_
    rw [hgd, hk2 c1]
    simp only [dNode, c1, decide_true, Bool.true_and, List.all_nil, Bool.and_true]
    by_cases h : namedI ds n < 0
    · simp [h]
    · simp [h]; omega
  have f1 : (k == 2) = false := by simp [c1]
  have hdn : dNode ds (.mk k n ks) = true := by simp [dNode, c1]
  simp only [f1, go_sem, ↓reduceIte, reduceCtorEq, reduceLT, reduceEqDiff, Nat.reduceBEq, reduceAdd, reduceMul, reduceSub, reduceLeDiff, reduceReplicate]
  refine loop_count 5 ks.length (fun j => Fw.Inv 29 [(0, Dat.sl ds), (3, .cp [I k, S n, .sl 3 (Typ.dsL ks)])] ((ks.take j).all (Typ.good (dNode ds)) = true)) rfl ⟨rfl, by simp [Dat.sl, envOf, setE], by simp⟩ ?_
  rintro j ⟨env, H, n', nt, T⟩ hj h5 ⟨rfl, hfs, hp⟩
  simp only [List.forall_mem_cons, Dat.sl] at h5 hfs
  obtain ⟨e0, e1, -⟩ := hfs
  simp only [h5, e0, e1, hda, go_sem, ↓reduceIte, reduceCtorEq, reduceLT, reduceEqDiff, Nat.reduceBEq, reduceAdd, reduceMul, reduceSub, reduceLeDiff, reduceReplicate]
  refine condK_split (fun h => ?_) (fun h => ?_)
  · have hlt : j < ks.length := by simpa using h
    have hx := List.getElem_mem hlt
    have g0 := Typ.dsL_get ks j hlt
    have hd0 := Typ.ds_len ks[j]
    have ht0 : List.take 3 ks[j].ds = ks[j].ds := List.take_of_length_le (by omega)
    simp only [h, h5, e0, e1, g0, hd0, ht0, hda, go_sem, ↓reduceIte, reduceCtorEq, reduceLT, reduceEqDiff, Nat.reduceBEq, reduceAdd, reduceMul, reduceSub, reduceLeDiff, reduceReplicate]
    refine callK_intro _ (hel ks[j] hx) (by simp only [List.nil_append, List.append_nil, List.forall_mem_cons]; exact ⟨Dat.cl_sl _, Cl.ag' (Typ.cl _), by simp⟩) ?_
    cases hq : Typ.good (dNode ds) ks[j]
    · simp only [go_sem, ↓reduceIte, reduceCtorEq, reduceLT, reduceEqDiff, Nat.reduceBEq, reduceAdd, reduceMul, reduceSub, reduceLeDiff, reduceReplicate]
      exact Fz.bool (by rw [hgd, all_of_take hlt hq, Bool.and_false])
    · simp only [h5, go_sem, ↓reduceIte, reduceCtorEq, reduceLT, reduceEqDiff, Nat.reduceBEq, reduceAdd, reduceMul, reduceSub, reduceLeDiff, reduceReplicate]
      refine nextC_mk (by simp [setE, wrap_succ j (by omega)]) hlt ⟨rfl, by simp [setE, e0, e1, Dat.sl], by rw [all_take_succ hlt, hp, hq]; rfl⟩
  · have hj' : j = ks.length := by simp at h; omega
    subst hj'
    rw [List.take_length] at hp
    simp only [h, go_sem, ↓reduceIte, reduceCtorEq, reduceLT, reduceEqDiff, Nat.reduceBEq, reduceAdd, reduceMul, reduceSub, reduceLeDiff, reduceReplicate]
    exact Fz.bool (by rw [hgd, hp, hdn]; rfl)
theorem l02Known (ds : List Dat) (hdl : ds.length ≤ maxLen) (t : Typ) (ho : t.ok) (hg : gdT t = true) : Sp Tryz.prog 112 [Dat.sl ds, .ag t.ds] (B (Typ.good (dNode ds) t)) := by
  match t, ho, hg with
  | .mk k n ks, ho, hg =>
  simp only [Typ.ok] at ho
  rw [gdT, Typ.good, Typ.goodS_eq, Bool.and_eq_true, List.all_eq_true] at hg
  refine l02Known_step ds hdl k n ks ho.2.1 (fun h2 => ?_) fun x hx => l02Known ds hdl x (Typ.okS_mem ho.2.2 x hx) (hg.2 x hx)
  have := hg.1
  simp only [tyNode, h2] at this
  simp at this
  exact this.2
termination_by t
decreasing_by all_goals (have := List.sizeOf_lt_of_mem hx; simp; omega)
theorem validConstructor (ds : List Dat) (hdl : ds.length ≤ maxLen) (c : Constructor) (hs : c.sz ≤ 1048576) (ho : c.ok) : Sp Tryz.prog 104 [Dat.sl ds, .ag c.ds] (B (conF ds c)) := by
  obtain ⟨n, fs⟩ := c
  simp only [Constructor.ok] at ho
  simp only [Constructor.sz] at hs
  obtain ⟨o1, o2, o3⟩ := ho
  have hda : (Typ.dsL fs).length = fs.length := Typ.dsL_len fs
  have hclo : ∀ x ∈ fs, Sp Tryz.prog 134 ([] ++ [.ag x.ds] ++ [.cp [Dat.sl ds]]) (B (!(tyF x && Typ.good (dNode ds) x))) := fun x hx => by
    have hd0 := Typ.ds_len x
    have ht0 : List.take 3 x.ds = x.ds := List.take_of_length_le (by omega)
    have ho0 : (x.ds).all oneD = true := by rw [List.all_eq_true]; exact Typ.one x
    have hxs := Typ.sz_mem hx
    have hxo := Typ.okS_mem o3 x hx
    simp only [List.nil_append, List.cons_append]
    refine Sp.of_vc [] [.tmp 3] Tryz.func134 rfl (by kernel_rfl) Tryz.ntmps134 rfl (by simp) ?_
    simp only [hd0, ht0, ho0, List.take_zero, List.nil_append, go_sem, ↓reduceIte, reduceCtorEq, reduceLT, reduceEqDiff, Nat.reduceBEq, reduceAdd, reduceMul, reduceSub, reduceLeDiff, reduceReplicate]
    refine callK_intro _ (validType x (by omega) hxo) (by simp; exact Typ.cl _) ?_
    cases c1 : tyF x
    · simp only [go_sem, ↓reduceIte, reduceCtorEq, reduceLT, reduceEqDiff, Nat.reduceBEq, reduceAdd, reduceMul, reduceSub, reduceLeDiff, reduceReplicate]
      exact Fz.bool rfl
    simp only [hd0, ht0, ho0, List.take_zero, List.nil_append, go_sem, ↓reduceIte, reduceCtorEq, reduceLT, reduceEqDiff, Nat.reduceBEq, reduceAdd, reduceMul, reduceSub, reduceLeDiff, reduceReplicate]
    refine callK_intro _ (declared ds hdl x hxo) (by simp only [List.nil_append, List.append_nil, List.forall_mem_cons]; exact ⟨Dat.cl_sl _, Cl.ag' (Typ.cl x), by simp⟩) ?_
    simp only [go_sem, ↓reduceIte, reduceCtorEq, reduceLT, reduceEqDiff, Nat.reduceBEq, reduceAdd, reduceMul, reduceSub, reduceLeDiff, reduceReplicate]
    exact Fz.bool (by simp)
  refine Sp.of_vc [] [.tmp 4] Tryz.func104 rfl (by kernel_rfl) Tryz.ntmps104 rfl (by simp) ?_
  simp only [Constructor.ds, hda, go_sem, ↓reduceIte, reduceCtorEq, reduceLT, reduceEqDiff, Nat.reduceBEq, reduceAdd, reduceMul, reduceSub, reduceLeDiff, reduceReplicate]
  refine callK_intro _ (isUpper n o1) (by simp) ?_
  cases c1 : upB n
  · simp only [go_sem, ↓reduceIte, reduceCtorEq, reduceLT, reduceEqDiff, Nat.reduceBEq, reduceAdd, reduceMul, reduceSub, reduceLeDiff, reduceReplicate]
    exact Fz.bool (by simp [conF, Constructor.nm, c1])
  simp only [hda, go_sem, ↓reduceIte, reduceCtorEq, reduceLT, reduceEqDiff, Nat.reduceBEq, reduceAdd, reduceMul, reduceSub, reduceLeDiff, reduceReplicate]
  by_cases c2 : (fs.length : Int) > 3
  · simp only [decide_eq_true c2, go_sem, ↓reduceIte, reduceCtorEq, reduceLT, reduceEqDiff, Nat.reduceBEq, reduceAdd, reduceMul, reduceSub, reduceLeDiff, reduceReplicate]
    have c2' : ¬ fs.length ≤ 3 := by omega
    exact Fz.bool (by simp [conF, Constructor.fs, c2'])
  simp only [decide_eq_false c2, go_sem, ↓reduceIte, reduceCtorEq, reduceLT, reduceEqDiff, Nat.reduceBEq, reduceAdd, reduceMul, reduceSub, reduceLeDiff, reduceReplicate]
  refine callK_intro _ (containsFuncTyp fs (fun x => !(tyF x && Typ.good (dNode ds) x)) _ [] [.cp [Dat.sl ds]] o2 (by simp) (by simp) hclo) (by simp only [List.nil_append, List.append_nil, List.forall_mem_cons]; exact ⟨Typ.cl_sl _, Cl.fn' (by simp) (by simp; exact Dat.clL _), by simp⟩) ?_
  simp only [go_sem, ↓reduceIte, reduceCtorEq, reduceLT, reduceEqDiff, Nat.reduceBEq, reduceAdd, reduceMul, reduceSub, reduceLeDiff, reduceReplicate]
  refine Fz.bool ?_
  rw [not_any_not]
  have : fs.length ≤ 3 := by omega
  simp [conF, Constructor.nm, Constructor.fs, c1, this]
theorem l02Cons (ds : List Dat) (hdl : ds.length ≤ maxLen) (c : Constructor) (hs : c.sz ≤ 1048576) (ho : c.ok) : Sp Tryz.prog 97 [Dat.sl ds, .ag c.ds] (B (conF ds c)) := by
  obtain ⟨n, fs⟩ := c
  simp only [Constructor.ok] at ho
  simp only [Constructor.sz] at hs
  obtain ⟨o1, o2, o3⟩ := ho
  have hda : (Typ.dsL fs).length = fs.length := Typ.dsL_len fs
  have o2' := o2
  unfold maxLen at o2'
  refine Sp.of_vc [] [.tmp 4] Tryz.func97 rfl (by kernel_rfl) Tryz.ntmps97 rfl (by simp) ?_
  simp only [Constructor.ds, hda, go_sem, ↓reduceIte, reduceCtorEq, reduceLT, reduceEqDiff, Nat.reduceBEq, reduceAdd, reduceMul, reduceSub, reduceLeDiff, reduceReplicate]
  refine callK_intro _ (specIsUpper n o1) (by simp) ?_
  cases c1 : upB n
  · simp only [go_sem, ↓reduceIte, reduceCtorEq, reduceLT, reduceEqDiff, Nat.reduceBEq, reduceAdd, reduceMul, reduceSub, reduceLeDiff, reduceReplicate]
    exact Fz.bool (by simp [conF, Constructor.nm, c1])
  simp only [hda, go_sem, ↓reduceIte, reduceCtorEq, reduceLT, reduceEqDiff, Nat.reduceBEq, reduceAdd, reduceMul, reduceSub, reduceLeDiff, reduceReplicate]
  by_cases c2 : (fs.length : Int) > 3
  · simp only [decide_eq_true c2, go_sem, ↓reduceIte, reduceCtorEq, reduceLT, reduceEqDiff, Nat.reduceBEq, reduceAdd, reduceMul, reduceSub, reduceLeDiff, reduceReplicate]
    have c2' : ¬ fs.length ≤ 3 := by omega
    exact Fz.bool (by simp [conF, Constructor.fs, c2'])
  simp only [decide_eq_false c2, go_sem, ↓reduceIte, reduceCtorEq, reduceLT, reduceEqDiff, Nat.reduceBEq, reduceAdd, reduceMul, reduceSub, reduceLeDiff, reduceReplicate]
  have hcf : conF ds (.mk n fs) = fs.all fun t => tyF t && Typ.good (dNode ds) t := by
    have : fs.length ≤ 3 := by omega
    simp [conF, Constructor.nm, Constructor.fs, c1, this]
  refine loop_count 5 fs.length (fun j => Fw.Inv 40 [(0, Dat.sl ds), (3, .cp [S n, .sl 3 (Typ.dsL fs)])] ((fs.take j).all (fun t => tyF t && Typ.good (dNode ds) t) = true)) rfl ⟨rfl, by simp [Dat.sl, envOf, setE], by simp⟩ ?_
  rintro j ⟨env, H, n', nt, T⟩ hj h5 ⟨rfl, hfs, hp⟩
  simp only [List.forall_mem_cons, Dat.sl] at h5 hfs
  obtain ⟨e0, e1, -⟩ := hfs
  simp only [h5, e0, e1, hda, go_sem, ↓reduceIte, reduceCtorEq, reduceLT, reduceEqDiff, Nat.reduceBEq, reduceAdd, reduceMul, reduceSub, reduceLeDiff, reduceReplicate]
  refine condK_split (fun h => ?_) (fun h => ?_)
  · have hlt : j < fs.length := by simpa using h
    have hx := List.getElem_mem hlt
    have g0 := Typ.dsL_get fs j hlt
    have hd0 := Typ.ds_len fs[j]
    have ht0 : List.take 3 fs[j].ds = fs[j].ds := List.take_of_length_le (by omega)
    have hxs := Typ.sz_mem hx
    have hxo := Typ.okS_mem o3 _ hx
    simp only [h, h5, e0, e1, g0, hd0, ht0, hda, go_sem, ↓reduceIte, reduceCtorEq, reduceLT, reduceEqDiff, Nat.reduceBEq, reduceAdd, reduceMul, reduceSub, reduceLeDiff, reduceReplicate]
    refine callK_intro _ (specValidType fs[j] (by omega) hxo) (by simp; exact Typ.cl _) ?_
    cases hq : tyF fs[j]
    · simp only [go_sem, ↓reduceIte, reduceCtorEq, reduceLT, reduceEqDiff, Nat.reduceBEq, reduceAdd, reduceMul, reduceSub, reduceLeDiff, reduceReplicate]
      exact Fz.bool (by rw [hcf, all_of_take hlt (by simp [hq])])
    have hg : gdT fs[j] = true := by simp only [tyF, Bool.and_eq_true] at hq; exact hq.1
    simp only [h5, e0, e1, g0, hd0, ht0, hda, go_sem, ↓reduceIte, reduceCtorEq, reduceLT, reduceEqDiff, Nat.reduceBEq, reduceAdd, reduceMul, reduceSub, reduceLeDiff, reduceReplicate]
    refine callK_intro _ (l02Known ds hdl fs[j] hxo hg) (by simp only [List.nil_append, List.append_nil, List.forall_mem_cons]; exact ⟨Dat.cl_sl _, Cl.ag' (Typ.cl _), by simp⟩) ?_
    cases hq2 : Typ.good (dNode ds) fs[j]
    · simp only [go_sem, ↓reduceIte, reduceCtorEq, reduceLT, reduceEqDiff, Nat.reduceBEq, reduceAdd, reduceMul, reduceSub, reduceLeDiff, reduceReplicate]
      exact Fz.bool (by rw [hcf, all_of_take hlt (by simp [hq, hq2])])
    · simp only [h5, go_sem, ↓reduceIte, reduceCtorEq, reduceLT, reduceEqDiff, Nat.reduceBEq, reduceAdd, reduceMul, reduceSub, reduceLeDiff, reduceReplicate]
      refine nextC_mk (by simp [setE, wrap_succ j (by omega)]) hlt ⟨rfl, by simp [setE, e0, e1, Dat.sl], by rw [all_take_succ hlt, hp, hq, hq2]; rfl⟩
  · have hj' : j = fs.length := by simp at h; omega
    subst hj'
    rw [List.take_length] at hp
    simp only [h, go_sem, ↓reduceIte, reduceCtorEq, reduceLT, reduceEqDiff, Nat.reduceBEq, reduceAdd, reduceMul, reduceSub, reduceLeDiff, reduceReplicate]
    exact Fz.bool (by rw [hcf, hp])
end Go.Proofs.YtcidmkcicagpaaaGreat
