/-
  The names of a program, checked: constructors found, types declared, numbers of fields, of the program and of the reference. No condition.
-/
import Derived.Test.YtcidmkcicagpaaaGreatP17
set_option maxRecDepth 100000
set_option linter.unusedSimpArgs false
set_option linter.unusedVariables false
namespace Go.Proofs.YtcidmkcicagpaaaGreat
open Go.Fw
open Nat (reduceLT reduceEqDiff reduceAdd reduceMul reduceSub reduceLeDiff)
open List (reduceReplicate)
def hasC (d : Dat) (n : ByteArray) : Bool := (Dat.cs d).any fun c => decide (Constructor.nm c = n)
def datI (das : List Dat) (n : ByteArray) : Int := idxF (fun d => hasC d n) das
def tagI (d : Dat) (n : ByteArray) : Int := idxF (fun c => decide (Constructor.nm c = n)) (Dat.cs d)
def conT (z : Int) (das : List Dat) (n : ByteArray) : Int := if datI das n < 0 then z else match das[(datI das n).toNat]? with | some d => tagI d n | none => z
theorem conT_at {z : Int} {das : List Dat} {n : ByteArray} {i : Nat} (h : i < das.length) (hi : datI das n = (i : Int)) : conT z das n = tagI das[i] n := by
  unfold conT
  rw [hi, if_neg (by omega)]
  simp [h]
theorem conT_none {z : Int} {das : List Dat} {n : ByteArray} (hi : datI das n = -1) : conT z das n = z := by unfold conT; rw [hi]; rfl
theorem findConstructor (das : List Dat) (n : ByteArray) (hl : das.length ≤ 1048576) (hc : ∀ d ∈ das, (Dat.cs d).length ≤ 1048576) : Sp Tryz.prog 149 [Dat.sl das, S n] (.tp [I (datI das n), I (conT 0 das n)]) := by
  have hda : (Dat.dsL das).length = das.length := Dat.dsL_len das
  refine Sp.of_vc [] [.tmp 4, .tmp 5] Tryz.func149 rfl (by kernel_rfl) Tryz.ntmps149 rfl (by simp) ?_
  simp only [go_sem, ↓reduceIte, reduceCtorEq, reduceLT, reduceEqDiff, Nat.reduceBEq, reduceAdd, reduceMul, reduceSub, reduceLeDiff, reduceReplicate, hda]
  refine loop_count 12 das.length (fun i => Fw.Inv 33 [(1, S n), (10, Dat.sl das), (11, I das.length)] ((das.take i).any (fun d => hasC d n) = false)) rfl ⟨rfl, by simp [Dat.sl, envOf, setE], by simp⟩ ?_
  rintro i ⟨env, H, n', nt, T⟩ hi h5 ⟨rfl, hfs, hp⟩
  simp only [List.forall_mem_cons, Dat.sl] at h5 hfs
  obtain ⟨e1, e10, e11, -⟩ := hfs
  simp only [h5, e1, e10, e11, hda, go_sem, ↓reduceIte, reduceCtorEq, reduceLT, reduceEqDiff, Nat.reduceBEq, reduceAdd, reduceMul, reduceSub, reduceLeDiff, reduceReplicate]
  refine condK_split (fun h => ?_) (fun h => ?_)
  · have hlt : i < das.length := by simpa using h
    have g0 := Dat.dsL_get das i hlt
    have hcl := hc _ (List.getElem_mem hlt)
    have hhit := @idxF_hit Dat (fun d => hasC d n) das i hlt hp
    have hts := any_take_succ (p := fun d => hasC d n) hlt
    have hca := @conT_at 0 das n i hlt
    obtain ⟨d, hd⟩ : ∃ d, d = das[i] := ⟨_, rfl⟩
    rw [← hd] at g0 hcl hhit hts hca
    obtain ⟨dn, cs⟩ := d
    simp only [Dat.cs] at hcl
    have hdc : (Constructor.dsL cs).length = cs.length := Constructor.dsL_len cs
    simp only [Dat.ds, Constructor.sl] at g0
    simp only [h, h5, e1, e10, e11, g0, hda, hdc, go_sem, ↓reduceIte, reduceCtorEq, reduceLT, reduceEqDiff, Nat.reduceBEq, reduceAdd, reduceMul, reduceSub, reduceLeDiff, reduceReplicate]
    refine loop_count 20 cs.length (fun t => Fw.InvH 33 [(1, S n), (10, Dat.sl das), (11, I das.length), (12, I i), (6, I i), (18, .sl 2 (Constructor.dsL cs)), (19, I cs.length)] fun _ _ _ => (cs.take t).any (fun c => decide (Constructor.nm c = n)) = false) rfl ⟨rfl, by simp [Dat.sl, setE, e1, e10, e11, h5], by simp⟩ ?_
    clear e1 e10 e11 h5
    rintro t ⟨env, H, n'', nt, T⟩ ht h5 ⟨rfl, hfs, hq⟩
    simp only [List.forall_mem_cons, Dat.sl] at h5 hfs hq
    obtain ⟨e1, e10, e11, e12, e6, e18, e19, -⟩ := hfs
    simp only [h5, e1, e10, e11, e12, e6, e18, e19, hdc, go_sem, ↓reduceIte, reduceCtorEq, reduceLT, reduceEqDiff, Nat.reduceBEq, reduceAdd, reduceMul, reduceSub, reduceLeDiff, reduceReplicate]
    refine condK_split (fun h => ?_) (fun h => ?_)
    · have hltt : t < cs.length := by simpa using h
      have g1 := Constructor.dsL_get cs t hltt
      have hhit2 := @idxF_hit Constructor (fun c => decide (Constructor.nm c = n)) cs t hltt hq
      have hts2 := any_take_succ (p := fun c => decide (Constructor.nm c = n)) hltt
      have hmm := List.getElem_mem hltt
      obtain ⟨c, hcc⟩ : ∃ c, c = cs[t] := ⟨_, rfl⟩
      rw [← hcc] at g1 hhit2 hts2 hmm
      obtain ⟨cn, fs⟩ := c
      simp only [Constructor.ds, Typ.sl] at g1
      simp only [h, h5, e1, e10, e11, e12, e6, e18, e19, g1, hdc, go_sem, ↓reduceIte, reduceCtorEq, reduceLT, reduceEqDiff, Nat.reduceBEq, reduceAdd, reduceMul, reduceSub, reduceLeDiff, reduceReplicate]
      by_cases hcn : cn = n
      · have f1 : (cn.toList == n.toList) = true := by rw [bytes_eq]; exact decide_eq_true hcn
        have hh : hasC (.mk dn cs) n = true := by simp only [hasC, Dat.cs, List.any_eq_true]; exact ⟨_, hmm, by simp [Constructor.nm, hcn]⟩
        have hdi : datI das n = (i : Int) := hhit hh
        simp only [f1, e6, go_sem, ↓reduceIte, reduceCtorEq, reduceLT, reduceEqDiff, Nat.reduceBEq, reduceAdd, reduceMul, reduceSub, reduceLeDiff, reduceReplicate]
        rw [hdi, hca hdi, show tagI (.mk dn cs) n = (t : Int) from hhit2 (by simp [Constructor.nm, hcn])]
        exact .cl _ (by simp)
      · have f1 : (cn.toList == n.toList) = false := by rw [bytes_eq]; exact decide_eq_false hcn
        simp only [f1, h5, go_sem, ↓reduceIte, reduceCtorEq, reduceLT, reduceEqDiff, Nat.reduceBEq, reduceAdd, reduceMul, reduceSub, reduceLeDiff, reduceReplicate]
        refine nextC_mk (by simp [setE, wrap_succ t (by omega)]) hltt ⟨rfl, by simp [setE, e1, e10, e11, e12, e6, e18, e19, Dat.sl], ?_⟩
        show (cs.take (t + 1)).any _ = false
        rw [hts2, hq]; simp [Constructor.nm, hcn]
    · have ht' : t = cs.length := by simp at h; omega
      subst ht'
      rw [List.take_length] at hq
      simp only [h, e12, go_sem, ↓reduceIte, reduceCtorEq, reduceLT, reduceEqDiff, Nat.reduceBEq, reduceAdd, reduceMul, reduceSub, reduceLeDiff, reduceReplicate]
      refine nextC_mk (by simp [setE, wrap_succ i (by omega)]) hlt ⟨rfl, by simp [setE, e1, e10, e11, Dat.sl], ?_⟩
      rw [hts, hp]; simpa [hasC, Dat.cs] using hq
  · have hi' : i = das.length := by simp at h; omega
    subst hi'
    rw [List.take_length] at hp
    have hdi : datI das n = -1 := idxF_none hp
    simp only [h, go_sem, ↓reduceIte, reduceCtorEq, reduceLT, reduceEqDiff, Nat.reduceBEq, reduceAdd, reduceMul, reduceSub, reduceLeDiff, reduceReplicate]
    rw [hdi, conT_none hdi]
    exact .cl _ (by simp)
theorem l02Constructor (das : List Dat) (n : ByteArray) (hl : das.length ≤ 1048576) (hc : ∀ d ∈ das, (Dat.cs d).length ≤ 1048576) : Sp Tryz.prog 144 [Dat.sl das, S n] (.tp [I (datI das n), I (conT (-1) das n)]) := by
  have hda : (Dat.dsL das).length = das.length := Dat.dsL_len das
  refine Sp.of_vc [] [.tmp 4, .tmp 5] Tryz.func144 rfl (by kernel_rfl) Tryz.ntmps144 rfl (by simp) ?_
  simp only [go_sem, ↓reduceIte, reduceCtorEq, reduceLT, reduceEqDiff, Nat.reduceBEq, reduceAdd, reduceMul, reduceSub, reduceLeDiff, reduceReplicate, hda]
  refine loop_count 6 das.length (fun i => Fw.Inv 37 [(1, S n), (0, Dat.sl das)] ((das.take i).any (fun d => hasC d n) = false)) rfl ⟨rfl, by simp [Dat.sl, envOf, setE], by simp⟩ ?_
  rintro i ⟨env, H, n', nt, T⟩ hi h5 ⟨rfl, hfs, hp⟩
  simp only [List.forall_mem_cons, Dat.sl] at h5 hfs
  obtain ⟨e1, e0, -⟩ := hfs
  simp only [h5, e1, e0, hda, go_sem, ↓reduceIte, reduceCtorEq, reduceLT, reduceEqDiff, Nat.reduceBEq, reduceAdd, reduceMul, reduceSub, reduceLeDiff, reduceReplicate]
  refine condK_split (fun h => ?_) (fun h => ?_)
  · have hlt : i < das.length := by simpa using h
    have g0 := Dat.dsL_get das i hlt
    have hcl := hc _ (List.getElem_mem hlt)
    have hhit := @idxF_hit Dat (fun d => hasC d n) das i hlt hp
    have hts := any_take_succ (p := fun d => hasC d n) hlt
    have hca := @conT_at (-1) das n i hlt
    obtain ⟨d, hd⟩ : ∃ d, d = das[i] := ⟨_, rfl⟩
    rw [← hd] at g0 hcl hhit hts hca
    obtain ⟨dn, cs⟩ := d
    simp only [Dat.cs] at hcl
    have hdc : (Constructor.dsL cs).length = cs.length := Constructor.dsL_len cs
    simp only [Dat.ds, Constructor.sl] at g0
    simp only [h, h5, e1, e0, g0, hda, hdc, go_sem, ↓reduceIte, reduceCtorEq, reduceLT, reduceEqDiff, Nat.reduceBEq, reduceAdd, reduceMul, reduceSub, reduceLeDiff, reduceReplicate]
    refine loop_count 7 cs.length (fun t => Fw.InvH 37 [(1, S n), (0, Dat.sl das), (6, I i)] fun _ _ _ => (cs.take t).any (fun c => decide (Constructor.nm c = n)) = false) rfl ⟨rfl, by simp [Dat.sl, setE, e1, e0, h5], by simp⟩ ?_
    clear e1 e0 h5
    rintro t ⟨env, H, n'', nt, T⟩ ht h5 ⟨rfl, hfs, hq⟩
    simp only [List.forall_mem_cons, Dat.sl] at h5 hfs hq
    obtain ⟨e1, e0, e6, -⟩ := hfs
    simp only [h5, e1, e0, e6, g0, hda, hdc, go_sem, ↓reduceIte, reduceCtorEq, reduceLT, reduceEqDiff, Nat.reduceBEq, reduceAdd, reduceMul, reduceSub, reduceLeDiff, reduceReplicate]
    refine condK_split (fun h => ?_) (fun h => ?_)
    · have hltt : t < cs.length := by simpa using h
      have g1 := Constructor.dsL_get cs t hltt
      have hhit2 := @idxF_hit Constructor (fun c => decide (Constructor.nm c = n)) cs t hltt hq
      have hts2 := any_take_succ (p := fun c => decide (Constructor.nm c = n)) hltt
      have hmm := List.getElem_mem hltt
      obtain ⟨c, hcc⟩ : ∃ c, c = cs[t] := ⟨_, rfl⟩
      rw [← hcc] at g1 hhit2 hts2 hmm
      obtain ⟨cn, fs⟩ := c
      simp only [Constructor.ds, Typ.sl] at g1
      simp only [h, h5, e1, e0, e6, g0, g1, hda, hdc, go_sem, ↓reduceIte, reduceCtorEq, reduceLT, reduceEqDiff, Nat.reduceBEq, reduceAdd, reduceMul, reduceSub, reduceLeDiff, reduceReplicate]
      by_cases hcn : cn = n
      · have f1 : (cn.toList == n.toList) = true := by rw [bytes_eq]; exact decide_eq_true hcn
        have hh : hasC (.mk dn cs) n = true := by simp only [hasC, Dat.cs, List.any_eq_true]; exact ⟨_, hmm, by simp [Constructor.nm, hcn]⟩
        have hdi : datI das n = (i : Int) := hhit hh
        simp only [f1, e6, h5, go_sem, ↓reduceIte, reduceCtorEq, reduceLT, reduceEqDiff, Nat.reduceBEq, reduceAdd, reduceMul, reduceSub, reduceLeDiff, reduceReplicate]
        rw [hdi, hca hdi, show tagI (.mk dn cs) n = (t : Int) from hhit2 (by simp [Constructor.nm, hcn])]
        exact .cl _ (by simp)
      · have f1 : (cn.toList == n.toList) = false := by rw [bytes_eq]; exact decide_eq_false hcn
        simp only [f1, h5, go_sem, ↓reduceIte, reduceCtorEq, reduceLT, reduceEqDiff, Nat.reduceBEq, reduceAdd, reduceMul, reduceSub, reduceLeDiff, reduceReplicate]
        refine nextC_mk (by simp [setE, wrap_succ t (by omega)]) hltt ⟨rfl, by simp [setE, e1, e0, e6, Dat.sl], ?_⟩
        show (cs.take (t + 1)).any _ = false
        rw [hts2, hq]; simp [Constructor.nm, hcn]
    · have ht' : t = cs.length := by simp at h; omega
      subst ht'
      rw [List.take_length] at hq
      simp only [h, e6, go_sem, ↓reduceIte, reduceCtorEq, reduceLT, reduceEqDiff, Nat.reduceBEq, reduceAdd, reduceMul, reduceSub, reduceLeDiff, reduceReplicate]
      refine nextC_mk (by simp [setE, wrap_succ i (by omega)]) hlt ⟨rfl, by simp [setE, e1, e0, Dat.sl], ?_⟩
      rw [hts, hp]; simpa [hasC, Dat.cs] using hq
  · have hi' : i = das.length := by simp at h; omega
    subst hi'
    rw [List.take_length] at hp
    have hdi : datI das n = -1 := idxF_none hp
    simp only [h, go_sem, ↓reduceIte, reduceCtorEq, reduceLT, reduceEqDiff, Nat.reduceBEq, reduceAdd, reduceMul, reduceSub, reduceLeDiff, reduceReplicate]
    rw [hdi, conT_none hdi]
    exact .cl _ (by simp)
theorem indexFuncTerm (l : List Term) (p : Term → Bool) (f : FuncId) (first caps : List D) (hl : l.length ≤ maxLen) (hf : ∀ d ∈ first, Cl d) (hc : ∀ d ∈ caps, Cl d)
    (hel : ∀ x ∈ l, Sp Tryz.prog f (first ++ [.ag x.ds] ++ caps) (B (p x))) : Sp Tryz.prog 176 [Term.sl l, .fn f first caps] (I (idxF p l)) := by
  unfold maxLen at hl
  have hda : (Term.dsL l).length = l.length := Term.dsL_len l
  refine Sp.of_vc [] [.tmp 4] Tryz.func176 rfl (by kernel_rfl) Tryz.ntmps176 rfl (by simp) ?_
  simp only [go_sem, ↓reduceIte, reduceCtorEq, reduceLT, reduceEqDiff, Nat.reduceBEq, reduceAdd, reduceMul, reduceSub, reduceLeDiff, reduceReplicate, hda]
  refine loop_count 8 l.length (fun k => Fw.Inv 19 [(0, Term.sl l), (1, .fn f first caps), (7, I l.length)] ((l.take k).any p = false)) rfl ⟨rfl, by simp [Term.sl, envOf, setE], by simp⟩ ?_
  rintro k ⟨env, H, n, nt, T⟩ hk h5 ⟨rfl, hfs, hp⟩
  simp only [List.forall_mem_cons, Term.sl] at h5 hfs
  obtain ⟨e0, e1, e2, -⟩ := hfs
  simp only [h5, e2, hda, go_sem, ↓reduceIte, reduceCtorEq, reduceLT, reduceEqDiff, Nat.reduceBEq, reduceAdd, reduceMul, reduceSub, reduceLeDiff, reduceReplicate]
  refine condK_split (fun h => ?_) (fun h => ?_)
  · have hlt : k < l.length := by simpa using h
    have g0 := Term.dsL_get l k hlt
    have hd0 := Term.ds_len l[k]
    have ht0 : List.take 8 l[k].ds = l[k].ds := List.take_of_length_le (by omega)
    have ho0 : (l[k].ds).all oneD = true := by rw [List.all_eq_true]; exact Term.one l[k]
    simp only [h, h5, e0, e1, e2, g0, hd0, ht0, ho0, List.take_zero, List.nil_append, go_sem, ↓reduceIte, reduceCtorEq, reduceLT, reduceEqDiff, Nat.reduceBEq, reduceAdd, reduceMul, reduceSub, reduceLeDiff, reduceReplicate]
    refine callK_intro _ (hel l[k] (List.getElem_mem hlt)) (by simp only [List.forall_mem_append, List.forall_mem_cons]; exact ⟨⟨hf, Cl.ag' (Term.cl _), by simp⟩, hc⟩) ?_
    cases hc : p l[k]
    · simp only [hc, h5, go_sem, ↓reduceIte, reduceCtorEq, reduceLT, reduceEqDiff, Nat.reduceBEq, reduceAdd, reduceMul, reduceSub, reduceLeDiff, reduceReplicate]
      refine nextC_mk (by simp [setE, wrap_succ k (by omega)]) hlt ⟨rfl, by simp [setE, e0, e1, e2, Term.sl], ?_⟩
      rw [any_take_succ hlt, hp, hc]; rfl
    · simp only [hc, go_sem, ↓reduceIte, reduceCtorEq, reduceLT, reduceEqDiff, Nat.reduceBEq, reduceAdd, reduceMul, reduceSub, reduceLeDiff, reduceReplicate]
      exact Fz.int (idxF_hit hlt hp hc).symm
  · have hk' : k = l.length := by simp at h; omega
    simp only [h, go_sem, ↓reduceIte, reduceCtorEq, reduceLT, reduceEqDiff, Nat.reduceBEq, reduceAdd, reduceMul, reduceSub, reduceLeDiff, reduceReplicate]
    refine Fz.int ?_
    rw [hk', List.take_length] at hp
    exact (idxF_none hp).symm
theorem containsFuncTerm (l : List Term) (p : Term → Bool) (f : FuncId) (first caps : List D) (hl : l.length ≤ maxLen) (hf : ∀ d ∈ first, Cl d) (hc : ∀ d ∈ caps, Cl d)
    (hel : ∀ x ∈ l, Sp Tryz.prog f (first ++ [.ag x.ds] ++ caps) (B (p x))) : Sp Tryz.prog 150 [Term.sl l, .fn f first caps] (B (l.any p)) := by
  refine Sp.of_vc [] [.tmp 4] Tryz.func150 rfl (by kernel_rfl) Tryz.ntmps150 rfl (by simp) ?_
  simp only [go_sem, ↓reduceIte, reduceCtorEq, reduceLT, reduceEqDiff, Nat.reduceBEq, reduceAdd, reduceMul, reduceSub, reduceLeDiff, reduceReplicate]
  refine callK_intro _ (indexFuncTerm l p f first caps hl hf hc hel) (by simp only [List.nil_append, List.append_nil, List.forall_mem_cons]; exact ⟨Term.cl_sl l, Cl.fn' hf hc, by simp⟩) ?_
  simp only [go_sem, ↓reduceIte, reduceCtorEq, reduceLT, reduceEqDiff, Nat.reduceBEq, reduceAdd, reduceMul, reduceSub, reduceLeDiff, reduceReplicate]
  exact Fz.bool (idxF_any l)
theorem containsFuncDef (l : List Def) (p : Def → Bool) (f : FuncId) (first caps : List D) (hl : l.length ≤ maxLen) (hf : ∀ d ∈ first, Cl d) (hc : ∀ d ∈ caps, Cl d)
    (hel : ∀ x ∈ l, Sp Tryz.prog f (first ++ [.ag x.ds] ++ caps) (B (p x))) : Sp Tryz.prog 115 [Def.sl l, .fn f first caps] (B (l.any p)) := by
  refine Sp.of_vc [] [.tmp 4] Tryz.func115 rfl (by kernel_rfl) Tryz.ntmps115 rfl (by simp) ?_
  simp only [go_sem, ↓reduceIte, reduceCtorEq, reduceLT, reduceEqDiff, Nat.reduceBEq, reduceAdd, reduceMul, reduceSub, reduceLeDiff, reduceReplicate]
  refine callK_intro _ (indexFuncDef l p f first caps hl hf hc hel) (by simp only [List.nil_append, List.append_nil, List.forall_mem_cons]; exact ⟨Def.cl_sl l, Cl.fn' hf hc, by simp⟩) ?_
  simp only [go_sem, ↓reduceIte, reduceCtorEq, reduceLT, reduceEqDiff, Nat.reduceBEq, reduceAdd, reduceMul, reduceSub, reduceLeDiff, reduceReplicate]
  exact Fz.bool (idxF_any l)
theorem indexFuncStr (l : List ByteArray) (p : ByteArray → Bool) (f : FuncId) (first caps : List D) (hl : l.length ≤ maxLen) (hf : ∀ d ∈ first, Cl d) (hc : ∀ d ∈ caps, Cl d)
    (hel : ∀ x ∈ l, Sp Tryz.prog f (first ++ [S x] ++ caps) (B (p x))) : Sp Tryz.prog 175 [.sl 1 (R l), .fn f first caps] (I (idxF p l)) := by
  unfold maxLen at hl
  have hda : (R l).length = l.length := R_len l
  refine Sp.of_vc [] [.tmp 4] Tryz.func175 rfl (by kernel_rfl) Tryz.ntmps175 rfl (by simp) ?_
  simp only [go_sem, ↓reduceIte, reduceCtorEq, reduceLT, reduceEqDiff, Nat.reduceBEq, reduceAdd, reduceMul, reduceSub, reduceLeDiff, reduceReplicate, hda]
  refine loop_count 8 l.length (fun k => Fw.Inv 19 [(0, .sl 1 (R l)), (1, .fn f first caps), (7, I l.length)] ((l.take k).any p = false)) rfl ⟨rfl, by simp [envOf, setE], by simp⟩ ?_
  rintro k ⟨env, H, n, nt, T⟩ hk h5 ⟨rfl, hfs, hp⟩
  simp only [List.forall_mem_cons] at h5 hfs
  obtain ⟨e0, e1, e2, -⟩ := hfs
  simp only [h5, e2, hda, go_sem, ↓reduceIte, reduceCtorEq, reduceLT, reduceEqDiff, Nat.reduceBEq, reduceAdd, reduceMul, reduceSub, reduceLeDiff, reduceReplicate]
  refine condK_split (fun h => ?_) (fun h => ?_)
  · have hlt : k < l.length := by simpa using h
    have g0 : (R l)[k]? = some [S l[k]] := by simp [hlt]
    simp only [h, h5, e0, e1, e2, g0, go_sem, ↓reduceIte, reduceCtorEq, reduceLT, reduceEqDiff, Nat.reduceBEq, reduceAdd, reduceMul, reduceSub, reduceLeDiff, reduceReplicate]
    refine callK_intro _ (hel l[k] (List.getElem_mem hlt)) (by simp only [List.forall_mem_append, List.forall_mem_cons]; exact ⟨⟨hf, cl_sc _, by simp⟩, hc⟩) ?_
    cases hc : p l[k]
    · simp only [hc, h5, go_sem, ↓reduceIte, reduceCtorEq, reduceLT, reduceEqDiff, Nat.reduceBEq, reduceAdd, reduceMul, reduceSub, reduceLeDiff, reduceReplicate]
      refine nextC_mk (by simp [setE, wrap_succ k (by omega)]) hlt ⟨rfl, by simp [setE, e0, e1, e2], ?_⟩
      rw [any_take_succ hlt, hp, hc]; rfl
    · simp only [hc, go_sem, ↓reduceIte, reduceCtorEq, reduceLT, reduceEqDiff, Nat.reduceBEq, reduceAdd, reduceMul, reduceSub, reduceLeDiff, reduceReplicate]
      exact Fz.int (idxF_hit hlt hp hc).symm
  · have hk' : k = l.length := by simp at h; omega
    simp only [h, go_sem, ↓reduceIte, reduceCtorEq, reduceLT, reduceEqDiff, Nat.reduceBEq, reduceAdd, reduceMul, reduceSub, reduceLeDiff, reduceReplicate]
    refine Fz.int ?_
    rw [hk', List.take_length] at hp
    exact (idxF_none hp).symm
theorem containsFuncStr (l : List ByteArray) (p : ByteArray → Bool) (f : FuncId) (first caps : List D) (hl : l.length ≤ maxLen) (hf : ∀ d ∈ first, Cl d) (hc : ∀ d ∈ caps, Cl d)
    (hel : ∀ x ∈ l, Sp Tryz.prog f (first ++ [S x] ++ caps) (B (p x))) : Sp Tryz.prog 146 [.sl 1 (R l), .fn f first caps] (B (l.any p)) := by
  refine Sp.of_vc [] [.tmp 4] Tryz.func146 rfl (by kernel_rfl) Tryz.ntmps146 rfl (by simp) ?_
  simp only [go_sem, ↓reduceIte, reduceCtorEq, reduceLT, reduceEqDiff, Nat.reduceBEq, reduceAdd, reduceMul, reduceSub, reduceLeDiff, reduceReplicate]
  refine callK_intro _ (indexFuncStr l p f first caps hl hf hc hel) (by simp only [List.nil_append, List.append_nil, List.forall_mem_cons]; exact ⟨cl_R _, Cl.fn' hf hc, by simp⟩) ?_
  simp only [go_sem, ↓reduceIte, reduceCtorEq, reduceLT, reduceEqDiff, Nat.reduceBEq, reduceAdd, reduceMul, reduceSub, reduceLeDiff, reduceReplicate]
  exact Fz.bool (idxF_any l)
/-- A node in a term for which a function answers yes. -/
theorem anyNode (p : Term → Bool) (Hr : Term → Prop) (hk : ∀ k v n ty ns ks, Hr (.mk k v n ty ns ks) → ks.length ≤ maxLen ∧ ∀ x ∈ ks, Hr x) (f : FuncId) (first caps : List D) (hf : ∀ d ∈ first, Cl d) (hc : ∀ d ∈ caps, Cl d)
    (hel : ∀ x, Hr x → Sp Tryz.prog f (first ++ [.ag x.ds] ++ caps) (B (!p x))) (t : Term) (ht : Hr t) : Sp Tryz.prog 118 [.ag t.ds, .fn f first caps] (B (!Term.good p t)) := by
  match t, ht with
  | .mk k v n (.mk tk tn tks) ns ks, ht =>
  obtain ⟨h1, h2⟩ := hk _ _ _ _ _ _ ht
  have hfn := hel _ ht
  have hgd : Term.good p (.mk k v n (.mk tk tn tks) ns ks) = (p (.mk k v n (.mk tk tn tks) ns ks) && ks.all (Term.good p)) := by rw [Term.good, Term.goodS_eq]
  have hclo : ∀ x ∈ ks, Sp Tryz.prog 151 ([] ++ [.ag x.ds] ++ [.cp [.fn f first caps]]) (B (!Term.good p x)) := fun x hx => by
    have hd0 := Term.ds_len x
    have ht0 : List.take 8 x.ds = x.ds := List.take_of_length_le (by omega)
    have ho0 : (x.ds).all oneD = true := by rw [List.all_eq_true]; exact Term.one x
    have ih := anyNode p Hr hk f first caps hf hc hel x (h2 x hx)
    simp only [List.nil_append, List.cons_append]
    refine Sp.of_vc [] [.tmp 3] Tryz.func151 rfl (by kernel_rfl) Tryz.ntmps151 rfl (by simp) ?_
    simp only [hd0, ht0, ho0, List.take_zero, List.nil_append, go_sem, ↓reduceIte, reduceCtorEq, reduceLT, reduceEqDiff, Nat.reduceBEq, reduceAdd, reduceMul, reduceSub, reduceLeDiff, reduceReplicate]
    refine callK_intro _ ih (by simp only [List.nil_append, List.append_nil, List.forall_mem_cons]; exact ⟨Cl.ag' (Term.cl x), Cl.fn' hf hc, by simp⟩) ?_
    simp only [go_sem, ↓reduceIte, reduceCtorEq, reduceLT, reduceEqDiff, Nat.reduceBEq, reduceAdd, reduceMul, reduceSub, reduceLeDiff, reduceReplicate]
    exact Fz.bool rfl
  simp only [Term.ds, Typ.ds, strs, List.cons_append, List.nil_append] at hfn
  refine Sp.of_vc [] [.tmp 4] Tryz.func118 rfl (by kernel_rfl) Tryz.ntmps118 rfl (by simp) ?_
  simp only [Term.ds, Typ.ds, strs, List.cons_append, List.nil_append, go_sem, ↓reduceIte, reduceCtorEq, reduceLT, reduceEqDiff, Nat.reduceBEq, reduceAdd, reduceMul, reduceSub, reduceLeDiff, reduceReplicate]
  refine callK_intro _ hfn (by simp only [List.forall_mem_append, List.forall_mem_cons]; exact ⟨⟨hf, Cl.ag' (by simp; exact ⟨Typ.clL _, Term.clL _⟩), by simp⟩, hc⟩) ?_
  cases c1 : p (.mk k v n (.mk tk tn tks) ns ks)
  · simp only [Bool.not_false, go_sem, ↓reduceIte, reduceCtorEq, reduceLT, reduceEqDiff, Nat.reduceBEq, reduceAdd, reduceMul, reduceSub, reduceLeDiff, reduceReplicate]
    exact Fz.bool (by rw [hgd, c1]; rfl)
  · simp only [Bool.not_true, go_sem, ↓reduceIte, reduceCtorEq, reduceLT, reduceEqDiff, Nat.reduceBEq, reduceAdd, reduceMul, reduceSub, reduceLeDiff, reduceReplicate]
    refine callK_intro _ (containsFuncTerm ks (fun x => !Term.good p x) _ [] [.cp [.fn f first caps]] h1 (by simp) (by simp; exact ⟨hf, hc⟩) hclo) (by simp only [List.nil_append, List.append_nil, List.forall_mem_cons]; exact ⟨Term.cl_sl ks, Cl.fn' (by simp) (by simp; exact ⟨hf, hc⟩), by simp⟩) ?_
    simp only [go_sem, ↓reduceIte, reduceCtorEq, reduceLT, reduceEqDiff, Nat.reduceBEq, reduceAdd, reduceMul, reduceSub, reduceLeDiff, reduceReplicate]
    exact Fz.bool (by rw [hgd, c1, ← not_any_not, Bool.true_and, Bool.not_not])
termination_by t
decreasing_by all_goals (have := List.sizeOf_lt_of_mem hx; simp; omega)
end Go.Proofs.YtcidmkcicagpaaaGreat
