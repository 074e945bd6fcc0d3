/-
  Contracts over data of ValidProgram, of the program and of the reference. No condition.
-/
import Derived.Test.YtcidmkcicagpaaaGreatP9
namespace Go.Proofs.YtcidmkcicagpaaaGreat
open Go.Fw
open Nat (reduceLT reduceEqDiff reduceAdd reduceMul reduceSub reduceLeDiff)
open List (reduceReplicate)
open Classical
set_option maxRecDepth 100000
set_option linter.unusedSimpArgs false
set_option linter.unusedVariables false
theorem indexFuncDef (l : List Def) (p : Def → Bool) (f : FuncId) (first caps : List D) (hl : l.length ≤ maxLen) (hf : ∀ d ∈ first, Cl d) (hc : ∀ d ∈ caps, Cl d)
    (hel : ∀ x ∈ l, Sp Tryz.prog f (first ++ [.ag x.ds] ++ caps) (B (p x))) : Sp Tryz.prog 70 [Def.sl l, .fn f first caps] (I (idxF p l)) := by
  unfold maxLen at hl
  have hda : (Def.dsL l).length = l.length := Def.dsL_len l
  refine Sp.of_vc [] [.tmp 4] Tryz.func70 rfl (by kernel_rfl) Tryz.ntmps70 rfl (by simp) ?_
  simp only [go_sem, ↓reduceIte, reduceCtorEq, reduceLT, reduceEqDiff, Nat.reduceBEq, reduceAdd, reduceMul, reduceSub, reduceLeDiff, reduceReplicate, hda]
  refine loop_count 8 l.length (fun k => Fw.Inv 19 [(0, Def.sl l), (1, .fn f first caps), (7, I l.length)] ((l.take k).any p = false)) rfl ⟨rfl, by simp [Def.sl, envOf, setE], by simp⟩ ?_
  rintro k ⟨env, H, n, nt, T⟩ hk h5 ⟨rfl, hfs, hp⟩
  simp only [List.forall_mem_cons, Def.sl] at h5 hfs
  obtain ⟨e0, e1, e2, -⟩ := hfs
  simp only [h5, e2, hda, go_sem, ↓reduceIte, reduceCtorEq, reduceLT, reduceEqDiff, Nat.reduceBEq, reduceAdd, reduceMul, reduceSub, reduceLeDiff, reduceReplicate]
  refine condK_split (fun h => ?_) (fun h => ?_)
  · have hlt : k < l.length := by simpa using h
    have g0 := Def.dsL_get l k hlt
    have hd0 := Def.ds_len l[k]
    have ht0 : List.take 12 l[k].ds = l[k].ds := List.take_of_length_le (by omega)
    have ho0 : (l[k].ds).all oneD = true := by rw [List.all_eq_true]; exact Def.one l[k]
    simp only [h, h5, e0, e1, e2, g0, hd0, ht0, ho0, List.take_zero, List.nil_append, go_sem, ↓reduceIte, reduceCtorEq, reduceLT, reduceEqDiff, Nat.reduceBEq, reduceAdd, reduceMul, reduceSub, reduceLeDiff, reduceReplicate]
    refine callK_intro _ (hel l[k] (List.getElem_mem hlt)) (by simp only [List.forall_mem_append, List.forall_mem_cons]; exact ⟨⟨hf, Cl.ag' (Def.cl _), by simp⟩, hc⟩) ?_
    cases hc : p l[k]
    · simp only [hc, h5, go_sem, ↓reduceIte, reduceCtorEq, reduceLT, reduceEqDiff, Nat.reduceBEq, reduceAdd, reduceMul, reduceSub, reduceLeDiff, reduceReplicate]
      refine nextC_mk (by simp [setE, wrap_succ k (by omega)]) hlt ⟨rfl, by simp [setE, e0, e1, e2, Def.sl], ?_⟩
      rw [any_take_succ hlt, hp, hc]; rfl
    · simp only [hc, go_sem, ↓reduceIte, reduceCtorEq, reduceLT, reduceEqDiff, Nat.reduceBEq, reduceAdd, reduceMul, reduceSub, reduceLeDiff, reduceReplicate]
      exact Fz.int (idxF_hit hlt hp hc).symm
  · have hk' : k = l.length := by simp at h; omega
    simp only [h, go_sem, ↓reduceIte, reduceCtorEq, reduceLT, reduceEqDiff, Nat.reduceBEq, reduceAdd, reduceMul, reduceSub, reduceLeDiff, reduceReplicate]
    refine Fz.int ?_
    rw [hk', List.take_length] at hp
    exact (idxF_none hp).symm
def Def.nm : Def → ByteArray
  | .mk n _ _ => n
def Def.ty : Def → Typ
  | .mk _ t _ => t
def Def.bd : Def → Term
  | .mk _ _ b => b
def namedF (ds : List Def) (n : ByteArray) : Int := idxF (fun d => decide (Def.nm d = n)) ds
theorem findDef1 (d : Def) (n : ByteArray) : Sp Tryz.prog 71 [.ag d.ds, .cp [S n]] (B (decide (Def.nm d = n))) := by
  obtain ⟨dn, ⟨tk, tn, tks⟩, ⟨k, v, bn, ⟨uk, un, uks⟩, ns, ks⟩⟩ := d
  refine Sp.of_vc [] [.tmp 3] Tryz.func71 rfl (by kernel_rfl) Tryz.ntmps71 rfl (by simp) ?_
  simp only [Def.ds, Typ.ds, Term.ds, go_sem, ↓reduceIte, reduceCtorEq, reduceLT, reduceEqDiff, Nat.reduceBEq, reduceAdd, reduceMul, reduceSub, reduceLeDiff, reduceReplicate]
  exact Fz.bool (by rw [bytes_eq]; rfl)
theorem findDef (das : List Dat) (ds : List Def) (n : ByteArray) (hl : ds.length ≤ maxLen) : Sp Tryz.prog 33 [.ag [Dat.sl das, Def.sl ds], S n] (I (namedF ds n)) := by
  refine Sp.of_vc [] [.tmp 4] Tryz.func33 rfl (by kernel_rfl) Tryz.ntmps33 rfl (by simp) ?_
  simp only [go_sem, ↓reduceIte, reduceCtorEq, reduceLT, reduceEqDiff, Nat.reduceBEq, reduceAdd, reduceMul, reduceSub, reduceLeDiff, reduceReplicate]
  refine callK_intro _ (indexFuncDef ds (fun d => decide (Def.nm d = n)) _ [] [.cp [S n]] hl (by simp) (by simp) (fun d _ => by simpa using findDef1 d n)) (by simp; exact Def.clL _) ?_
  simp only [go_sem, ↓reduceIte, reduceCtorEq, reduceLT, reduceEqDiff, Nat.reduceBEq, reduceAdd, reduceMul, reduceSub, reduceLeDiff, reduceReplicate]
  exact Fz.int rfl
theorem l03Named (ds : List Def) (v : ByteArray) (hl : ds.length ≤ maxLen) : Sp Tryz.prog 26 [Def.sl ds, S v] (I (namedF ds v)) := by
  unfold maxLen at hl
  have hda : (Def.dsL ds).length = ds.length := Def.dsL_len ds
  refine Sp.of_vc [] [.tmp 4] Tryz.func26 rfl (by kernel_rfl) Tryz.ntmps26 rfl (by simp) ?_
  simp only [go_sem, ↓reduceIte, reduceCtorEq, reduceLT, reduceEqDiff, Nat.reduceBEq, reduceAdd, reduceMul, reduceSub, reduceLeDiff, reduceReplicate, hda]
  refine loop_count 5 ds.length (fun k => Fw.Inv 20 [(0, Def.sl ds), (1, S v)] ((ds.take k).any (fun d => decide (Def.nm d = v)) = false)) rfl ⟨rfl, by simp [Def.sl, envOf, setE], by simp⟩ ?_
  rintro k ⟨env, H, n, nt, T⟩ hk h5 ⟨rfl, hfs, hp⟩
  simp only [List.forall_mem_cons, Def.sl] at h5 hfs
  obtain ⟨e0, e1, -⟩ := hfs
  simp only [h5, e0, e1, hda, go_sem, ↓reduceIte, reduceCtorEq, reduceLT, reduceEqDiff, Nat.reduceBEq, reduceAdd, reduceMul, reduceSub, reduceLeDiff, reduceReplicate]
  refine condK_split (fun h => ?_) (fun h => ?_)
  · have hlt : k < ds.length := by simpa using h
    have g0 := Def.dsL_get ds k hlt
    obtain ⟨d, hd⟩ : ∃ d, d = ds[k] := ⟨_, rfl⟩
    have hs := any_take_succ (p := fun d => decide (Def.nm d = v)) hlt
    have hh := @idxF_hit Def (fun d => decide (Def.nm d = v)) ds k hlt hp
    rw [← hd] at g0 hs hh
    obtain ⟨dn, dt, db⟩ := d
    simp only [Def.ds, List.cons_append, List.nil_append] at g0
    simp only [h, h5, e0, e1, g0, go_sem, ↓reduceIte, reduceCtorEq, reduceLT, reduceEqDiff, Nat.reduceBEq, reduceAdd, reduceMul, reduceSub, reduceLeDiff, reduceReplicate]
    by_cases hc : dn = v
    · have f1 : (dn.toList == v.toList) = true := by rw [bytes_eq]; exact decide_eq_true hc
      simp only [f1, h5, go_sem, ↓reduceIte, reduceCtorEq, reduceLT, reduceEqDiff, Nat.reduceBEq, reduceAdd, reduceMul, reduceSub, reduceLeDiff, reduceReplicate]
      exact Fz.int (hh (by simp [Def.nm, hc])).symm
    · have f1 : (dn.toList == v.toList) = false := by rw [bytes_eq]; exact decide_eq_false hc
      simp only [f1, h5, go_sem, ↓reduceIte, reduceCtorEq, reduceLT, reduceEqDiff, Nat.reduceBEq, reduceAdd, reduceMul, reduceSub, reduceLeDiff, reduceReplicate]
      refine nextC_mk (by simp [setE, wrap_succ k (by omega)]) hlt ⟨rfl, by simp [setE, e0, e1, Def.sl], ?_⟩
      rw [hs, hp]; simp [Def.nm, hc]
  · have hk' : k = ds.length := by simp at h; omega
    simp only [h, go_sem, ↓reduceIte, reduceCtorEq, reduceLT, reduceEqDiff, Nat.reduceBEq, reduceAdd, reduceMul, reduceSub, reduceLeDiff, reduceReplicate]
    refine Fz.int ?_
    rw [hk', List.take_length] at hp
    exact (idxF_none hp).symm
theorem idx_firstD (p : Def → Bool) : ∀ (ds : List Def) (i : Nat) (h : i < ds.length), p ds[i] = true → 0 ≤ idxF p ds ∧ idxF p ds ≤ i
  | [], i, h, _ => by simp at h
  | d :: ds, 0, _, hp => by simp at hp; simp [idxF, hp]
  | d :: ds, i + 1, h, hp => by
    have := idx_firstD p ds i (by simpa using h) (by simpa using hp)
    unfold idxF
    split
    · exact ⟨by omega, by omega⟩
    · split <;> omega
def progP : Prg → Prop
  | .mk das ds => vdP das ∧ 1 ≤ ds.length ∧ ds.length ≤ 8 ∧ ∀ (i : Nat) (h : i < ds.length), loB (Def.nm ds[i]) = true ∧ namedF ds (Def.nm ds[i]) = (i : Int) ∧ tyF (Def.ty ds[i]) = true ∧ tmF (Def.bd ds[i]) = true
theorem validProgram (p : Prg) (hs : p.sz ≤ 1048576) (ho : p.ok) : Sp Tryz.prog 32 [.ag p.ds] (B (decide (progP p))) := by
  obtain ⟨das, ds⟩ := p
  simp only [Prg.ok] at ho
  simp only [Prg.sz] at hs
  obtain ⟨o1, o2, o3, o4⟩ := ho
  have o3' := o3
  unfold maxLen at o3'
  have hda : (Def.dsL ds).length = ds.length := Def.dsL_len ds
  refine Sp.of_vc [] [.tmp 2] Tryz.func32 rfl (by kernel_rfl) Tryz.ntmps32 rfl (by simp) ?_
  simp only [Prg.ds, hda, go_sem, ↓reduceIte, reduceCtorEq, reduceLT, reduceEqDiff, Nat.reduceBEq, reduceAdd, reduceMul, reduceSub, reduceLeDiff, reduceReplicate]
  refine callK_intro _ (validDatas das o1 (by omega) o2) (by simp; exact Dat.clL _) ?_
  by_cases c0 : vdP das
  case neg =>
    simp only [decide_eq_false c0, go_sem, ↓reduceIte, reduceCtorEq, reduceLT, reduceEqDiff, Nat.reduceBEq, reduceAdd, reduceMul, reduceSub, reduceLeDiff, reduceReplicate]
    refine Fz.bool ?_
    symm; rw [decide_eq_false_iff_not]; rintro ⟨h, _⟩; exact c0 h
  simp only [decide_eq_true c0, hda, go_sem, ↓reduceIte, reduceCtorEq, reduceLT, reduceEqDiff, Nat.reduceBEq, reduceAdd, reduceMul, reduceSub, reduceLeDiff, reduceReplicate]
  by_cases c1 : (ds.length : Int) < 1
  · simp only [decide_eq_true c1, go_sem, ↓reduceIte, reduceCtorEq, reduceLT, reduceEqDiff, Nat.reduceBEq, reduceAdd, reduceMul, reduceSub, reduceLeDiff, reduceReplicate]
    refine Fz.bool ?_
    symm; rw [decide_eq_false_iff_not]; rintro ⟨_, h, _⟩; omega
  simp only [decide_eq_false c1, hda, go_sem, ↓reduceIte, reduceCtorEq, reduceLT, reduceEqDiff, Nat.reduceBEq, reduceAdd, reduceMul, reduceSub, reduceLeDiff, reduceReplicate]
  by_cases c2 : (ds.length : Int) > 8
  · simp only [decide_eq_true c2, go_sem, ↓reduceIte, reduceCtorEq, reduceLT, reduceEqDiff, Nat.reduceBEq, reduceAdd, reduceMul, reduceSub, reduceLeDiff, reduceReplicate]
    refine Fz.bool ?_
    symm; rw [decide_eq_false_iff_not]; rintro ⟨_, _, h, _⟩; omega
  simp only [decide_eq_false c2, hda, go_sem, ↓reduceIte, reduceCtorEq, reduceLT, reduceEqDiff, Nat.reduceBEq, reduceAdd, reduceMul, reduceSub, reduceLeDiff, reduceReplicate]
  refine loop_count 24 ds.length (fun i => Fw.Inv 54 [(1, .cp [Dat.sl das, Def.sl ds]), (22, Def.sl ds), (23, I ds.length)] (∀ (j : Nat) (h : j < ds.length), j < i → loB (Def.nm ds[j]) = true ∧ namedF ds (Def.nm ds[j]) = (j : Int) ∧ tyF (Def.ty ds[j]) = true ∧ tmF (Def.bd ds[j]) = true)) rfl ⟨rfl, by simp [Def.sl, Dat.sl, envOf, setE], by simp⟩ ?_
  rintro i ⟨env, H, n, nt, T⟩ hi h5 ⟨rfl, hfs, hp⟩
  simp only [List.forall_mem_cons, Def.sl, Dat.sl] at h5 hfs
  obtain ⟨e0, e1, e2, -⟩ := hfs
  simp only [h5, e0, e1, e2, hda, go_sem, ↓reduceIte, reduceCtorEq, reduceLT, reduceEqDiff, Nat.reduceBEq, reduceAdd, reduceMul, reduceSub, reduceLeDiff, reduceReplicate]
  refine condK_split (fun h => ?_) (fun h => ?_)
  · have hlt : i < ds.length := by simpa using h
    have hx := List.getElem_mem hlt
    have g0 := Def.dsL_get ds i hlt
    have hsz := Def.sz_mem hx
    have hok := Def.okS_mem o4 _ hx
    have hfi := idx_firstD (fun e => decide (Def.nm e = Def.nm ds[i])) ds i hlt (by simp)
    have bad : ¬ (loB (Def.nm ds[i]) = true ∧ namedF ds (Def.nm ds[i]) = (i : Int) ∧ tyF (Def.ty ds[i]) = true ∧ tmF (Def.bd ds[i]) = true) → false = decide (progP (.mk das ds)) := fun hb => by
      symm; rw [decide_eq_false_iff_not]; rintro ⟨_, _, _, hh⟩; exact hb (hh i hlt)
    have next : (loB (Def.nm ds[i]) = true ∧ namedF ds (Def.nm ds[i]) = (i : Int) ∧ tyF (Def.ty ds[i]) = true ∧ tmF (Def.bd ds[i]) = true) → ∀ (j : Nat) (h : j < ds.length), j < i + 1 → loB (Def.nm ds[j]) = true ∧ namedF ds (Def.nm ds[j]) = (j : Int) ∧ tyF (Def.ty ds[j]) = true ∧ tmF (Def.bd ds[j]) = true := fun hd j hj hji => by
      by_cases hji' : j < i
      · exact hp j hj hji'
      · have : j = i := by omega
        subst this; exact hd
    obtain ⟨d, hd⟩ : ∃ d, d = ds[i] := ⟨_, rfl⟩
    rw [← hd] at g0 hsz hok bad next hfi
    clear hx hd
    obtain ⟨dn, dt, db⟩ := d
    simp only [Def.ok] at hok
    simp only [Def.sz] at hsz
    obtain ⟨q1, q2, q3⟩ := hok
    simp only [Def.nm, Def.ty, Def.bd] at bad next hfi
    have ht3 := Typ.ds_len dt
    have hb8 := Term.ds_len db
    have ht1 : List.take 3 dt.ds = dt.ds := List.take_of_length_le (by omega)
    have hb1 : List.take 8 db.ds = db.ds := List.take_of_length_le (by omega)
    have hds : Def.ds (.mk dn dt db) = [S dn] ++ (dt.ds ++ db.ds) := by simp [Def.ds]
    have ho1 : ([S dn] ++ (dt.ds ++ db.ds)).all oneD = true := by rw [← hds, List.all_eq_true]; exact Def.one _
    rw [hds] at g0
    have hd1 : List.drop 1 ([S dn] ++ (dt.ds ++ db.ds)) = dt.ds ++ db.ds := rfl
    have hl12 : ([S dn] ++ (dt.ds ++ db.ds)).length = 12 := by simp [ht3, hb8]
    have ht12 : List.take 12 ([S dn] ++ (dt.ds ++ db.ds)) = [S dn] ++ (dt.ds ++ db.ds) := List.take_of_length_le (by omega)
    simp only [List.cons_append, List.nil_append] at g0 ho1 hd1 hl12 ht12
    have hd1' : List.drop 1 (dt.ds ++ db.ds) = List.drop 1 (dt.ds ++ db.ds) := rfl
    have hd4 : List.drop 3 (dt.ds ++ db.ds) = db.ds := by rw [← ht3, List.drop_left]
    have ht4 : List.take 3 (dt.ds ++ db.ds) = dt.ds := by rw [← ht3, List.take_left]
    have hle3 : (3 ≤ (dt.ds ++ db.ds).length) = True := eq_true (by simp [ht3])
    have hle12 : (12 ≤ (S dn :: (dt.ds ++ db.ds)).length) = True := eq_true (by rw [hl12]; exact Nat.le_refl _)
    have hdt : (dt.ds ++ db.ds).length = 11 := by simp [ht3, hb8]
    have hall : (dt.ds ++ db.ds).all oneD = true := by simpa [oneD, Value.oneCell'] using ho1
    simp only [h, h5, e0, e1, e2, g0, ht12, hle12, hl12, hdt, hall, hda, go_sem, ↓reduceIte, reduceCtorEq, reduceLT, reduceEqDiff, Nat.reduceBEq, reduceAdd, reduceMul, reduceSub, reduceLeDiff, reduceReplicate]
    refine callK_intro _ (isLower dn q1) (by simp) ?_
    cases c3 : loB dn
    · simp only [go_sem, ↓reduceIte, reduceCtorEq, reduceLT, reduceEqDiff, Nat.reduceBEq, reduceAdd, reduceMul, reduceSub, reduceLeDiff, reduceReplicate]
      exact Fz.bool (bad (by rintro ⟨h, _⟩; rw [c3] at h; cases h))
    simp only [e0, go_sem, ↓reduceIte, reduceCtorEq, reduceLT, reduceEqDiff, Nat.reduceBEq, reduceAdd, reduceMul, reduceSub, reduceLeDiff, reduceReplicate]
    refine callK_intro _ (findDef das ds dn o3) (by simp only [List.nil_append, List.append_nil, List.forall_mem_cons]; exact ⟨Cl.ag' (by simp; exact ⟨Dat.clL _, Def.clL _⟩), cl_sc _, by simp⟩) ?_
    have hfi' : 0 ≤ namedF ds dn ∧ namedF ds dn ≤ i := hfi
    by_cases c4 : namedF ds dn < (i : Int)
    · simp only [decide_eq_true c4, go_sem, ↓reduceIte, reduceCtorEq, reduceLT, reduceEqDiff, Nat.reduceBEq, reduceAdd, reduceMul, reduceSub, reduceLeDiff, reduceReplicate]
      exact Fz.bool (bad (by rintro ⟨_, h, _⟩; omega))
    simp only [decide_eq_false c4, hd4, ht4, hle3, ht3, go_sem, ↓reduceIte, reduceCtorEq, reduceLT, reduceEqDiff, Nat.reduceBEq, reduceAdd, reduceMul, reduceSub, reduceLeDiff, reduceReplicate]
    refine callK_intro _ (validType dt (by omega) q2) (by simp; exact Typ.cl _) ?_
    cases c5 : tyF dt
    · simp only [go_sem, ↓reduceIte, reduceCtorEq, reduceLT, reduceEqDiff, Nat.reduceBEq, reduceAdd, reduceMul, reduceSub, reduceLeDiff, reduceReplicate]
      exact Fz.bool (bad (by rintro ⟨_, _, h, _⟩; rw [c5] at h; cases h))
    simp only [hd4, ht4, hle3, hb8, hb1, go_sem, ↓reduceIte, reduceCtorEq, reduceLT, reduceEqDiff, Nat.reduceBEq, reduceAdd, reduceMul, reduceSub, reduceLeDiff, reduceReplicate]
    refine callK_intro _ (validTerm db (by omega) q3) (by simp; exact Term.cl _) ?_
    cases c6 : tmF db
    · simp only [go_sem, ↓reduceIte, reduceCtorEq, reduceLT, reduceEqDiff, Nat.reduceBEq, reduceAdd, reduceMul, reduceSub, reduceLeDiff, reduceReplicate]
      exact Fz.bool (bad (by rintro ⟨_, _, _, h⟩; rw [c6] at h; cases h))
    simp only [h5, go_sem, ↓reduceIte, reduceCtorEq, reduceLT, reduceEqDiff, Nat.reduceBEq, reduceAdd, reduceMul, reduceSub, reduceLeDiff, reduceReplicate]
    refine nextC_mk (by simp [setE, wrap_succ i (by omega)]) hlt ⟨rfl, ?_, next ⟨c3, by omega, c5, c6⟩⟩
    simp only [e0, e1, e2, Def.sl, Dat.sl, List.forall_mem_cons, List.not_mem_nil, false_implies, implies_true, setE, ↓reduceIte, Nat.reduceEqDiff, reduceCtorEq, and_true, true_and, and_self, eq_self]
  · have hi' : i = ds.length := by simp at h; omega
    simp only [h, go_sem, ↓reduceIte, reduceCtorEq, reduceLT, reduceEqDiff, Nat.reduceBEq, reduceAdd, reduceMul, reduceSub, reduceLeDiff, reduceReplicate]
    refine Fz.bool ?_
    symm; rw [decide_eq_true_eq]
    exact ⟨c0, by omega, by omega, fun j hj => hp j hj (by omega)⟩
theorem l03Program (p : Prg) (hs : p.sz ≤ 1048576) (ho : p.ok) : Sp Tryz.prog 25 [.cp p.ds] (B (decide (progP p))) := by
  obtain ⟨das, ds⟩ := p
  simp only [Prg.ok] at ho
  simp only [Prg.sz] at hs
  obtain ⟨o1, o2, o3, o4⟩ := ho
  have o3' := o3
  unfold maxLen at o3'
  have hda : (Def.dsL ds).length = ds.length := Def.dsL_len ds
  refine Sp.of_vc [] [.tmp 2] Tryz.func25 rfl (by kernel_rfl) Tryz.ntmps25 rfl (by simp) ?_
  simp only [Prg.ds, hda, go_sem, ↓reduceIte, reduceCtorEq, reduceLT, reduceEqDiff, Nat.reduceBEq, reduceAdd, reduceMul, reduceSub, reduceLeDiff, reduceReplicate]
  refine callK_intro _ (l02Ok das o1 (by omega) o2) (by simp; exact Dat.clL _) ?_
  by_cases c0 : vdP das
  case neg =>
    simp only [decide_eq_false c0, go_sem, ↓reduceIte, reduceCtorEq, reduceLT, reduceEqDiff, Nat.reduceBEq, reduceAdd, reduceMul, reduceSub, reduceLeDiff, reduceReplicate]
    refine Fz.bool ?_
    symm; rw [decide_eq_false_iff_not]; rintro ⟨h, _⟩; exact c0 h
  simp only [decide_eq_true c0, hda, go_sem, ↓reduceIte, reduceCtorEq, reduceLT, reduceEqDiff, Nat.reduceBEq, reduceAdd, reduceMul, reduceSub, reduceLeDiff, reduceReplicate]
  refine callK_intro _ (l00In _ _ _) (by simp) ?_
  cases c1 : inR ds.length 1 8
  · simp only [go_sem, ↓reduceIte, reduceCtorEq, reduceLT, reduceEqDiff, Nat.reduceBEq, reduceAdd, reduceMul, reduceSub, reduceLeDiff, reduceReplicate]
    refine Fz.bool ?_
    symm; rw [decide_eq_false_iff_not]; rintro ⟨_, h, h', _⟩
    rw [inR, decide_eq_false_iff_not] at c1; omega
  rw [inR, decide_eq_true_eq] at c1
  simp only [hda, go_sem, ↓reduceIte, reduceCtorEq, reduceLT, reduceEqDiff, Nat.reduceBEq, reduceAdd, reduceMul, reduceSub, reduceLeDiff, reduceReplicate]
  refine loop_count 3 ds.length (fun i => Fw.Inv 69 [(0, .cp [Dat.sl das, Def.sl ds])] (∀ (j : Nat) (h : j < ds.length), j < i → loB (Def.nm ds[j]) = true ∧ namedF ds (Def.nm ds[j]) = (j : Int) ∧ tyF (Def.ty ds[j]) = true ∧ tmF (Def.bd ds[j]) = true)) rfl ⟨rfl, by simp [Def.sl, Dat.sl, envOf, setE], by simp⟩ ?_
  rintro i ⟨env, H, n, nt, T⟩ hi h5 ⟨rfl, hfs, hp⟩
  simp only [List.forall_mem_cons, Def.sl, Dat.sl] at h5 hfs
  obtain ⟨e0, -⟩ := hfs
  simp only [h5, e0, hda, go_sem, ↓reduceIte, reduceCtorEq, reduceLT, reduceEqDiff, Nat.reduceBEq, reduceAdd, reduceMul, reduceSub, reduceLeDiff, reduceReplicate]
  refine condK_split (fun h => ?_) (fun h => ?_)
  · have hlt : i < ds.length := by simpa using h
    have hx := List.getElem_mem hlt
    have g0 := Def.dsL_get ds i hlt
    have hsz := Def.sz_mem hx
    have hok := Def.okS_mem o4 _ hx
    have hfi := idx_firstD (fun e => decide (Def.nm e = Def.nm ds[i])) ds i hlt (by simp)
    have bad : ¬ (loB (Def.nm ds[i]) = true ∧ namedF ds (Def.nm ds[i]) = (i : Int) ∧ tyF (Def.ty ds[i]) = true ∧ tmF (Def.bd ds[i]) = true) → false = decide (progP (.mk das ds)) := fun hb => by
      symm; rw [decide_eq_false_iff_not]; rintro ⟨_, _, _, hh⟩; exact hb (hh i hlt)
    have next : (loB (Def.nm ds[i]) = true ∧ namedF ds (Def.nm ds[i]) = (i : Int) ∧ tyF (Def.ty ds[i]) = true ∧ tmF (Def.bd ds[i]) = true) → ∀ (j : Nat) (h : j < ds.length), j < i + 1 → loB (Def.nm ds[j]) = true ∧ namedF ds (Def.nm ds[j]) = (j : Int) ∧ tyF (Def.ty ds[j]) = true ∧ tmF (Def.bd ds[j]) = true := fun hd j hj hji => by
      by_cases hji' : j < i
      · exact hp j hj hji'
      · have : j = i := by omega
        subst this; exact hd
    obtain ⟨d, hd⟩ : ∃ d, d = ds[i] := ⟨_, rfl⟩
    rw [← hd] at g0 hsz hok bad next hfi
    clear hx hd
    obtain ⟨dn, dt, db⟩ := d
    simp only [Def.ok] at hok
    simp only [Def.sz] at hsz
    obtain ⟨q1, q2, q3⟩ := hok
    simp only [Def.nm, Def.ty, Def.bd] at bad next hfi
    have ht3 := Typ.ds_len dt
    have hb8 := Term.ds_len db
    have ht1 : List.take 3 dt.ds = dt.ds := List.take_of_length_le (by omega)
    have hb1 : List.take 8 db.ds = db.ds := List.take_of_length_le (by omega)
    have hds : Def.ds (.mk dn dt db) = [S dn] ++ (dt.ds ++ db.ds) := by simp [Def.ds]
    have ho1 : ([S dn] ++ (dt.ds ++ db.ds)).all oneD = true := by rw [← hds, List.all_eq_true]; exact Def.one _
    rw [hds] at g0
    simp only [List.cons_append, List.nil_append] at g0
    have hd4 : List.drop 3 (dt.ds ++ db.ds) = db.ds := by rw [← ht3, List.drop_left]
    have ht4 : List.take 3 (dt.ds ++ db.ds) = dt.ds := by rw [← ht3, List.take_left]
    have hle3 : (3 ≤ (dt.ds ++ db.ds).length) = True := eq_true (by simp [ht3])
    simp only [h, h5, e0, g0, hda, go_sem, ↓reduceIte, reduceCtorEq, reduceLT, reduceEqDiff, Nat.reduceBEq, reduceAdd, reduceMul, reduceSub, reduceLeDiff, reduceReplicate]
    refine drawK_intro mixed (by kernel_rfl) ?_
    refine callQ_intro _ (specIsLower dn q1) (by simp) rfl ?_
    cases c3 : loB dn
    · simp only [go_sem, ↓reduceIte, reduceCtorEq, reduceLT, reduceEqDiff, Nat.reduceBEq, reduceAdd, reduceMul, reduceSub, reduceLeDiff, reduceReplicate]
      exact Fz.bool (bad (by rintro ⟨h, _⟩; rw [c3] at h; cases h))
    simp only [e0, h5, go_sem, ↓reduceIte, reduceCtorEq, reduceLT, reduceEqDiff, Nat.reduceBEq, reduceAdd, reduceMul, reduceSub, reduceLeDiff, reduceReplicate]
    refine callQ_intro _ (l03Named ds dn o3) (by simp only [List.nil_append, List.append_nil, List.forall_mem_cons]; exact ⟨Def.cl_sl _, cl_sc _, by simp⟩) rfl ?_
    by_cases c4 : namedF ds dn = (i : Int)
    case neg =>
      have f4 : (namedF ds dn != (i : Int)) = true := bne_t c4
      simp only [f4, h5, go_sem, ↓reduceIte, reduceCtorEq, reduceLT, reduceEqDiff, Nat.reduceBEq, reduceAdd, reduceMul, reduceSub, reduceLeDiff, reduceReplicate]
      exact Fz.bool (bad (by rintro ⟨_, h, _⟩; exact c4 h))
    have f4 : (namedF ds dn != (i : Int)) = false := bne_f c4
    simp only [f4, h5, hd4, ht4, hle3, ht3, go_sem, ↓reduceIte, reduceCtorEq, reduceLT, reduceEqDiff, Nat.reduceBEq, reduceAdd, reduceMul, reduceSub, reduceLeDiff, reduceReplicate]
    refine callQ_intro _ (specValidType dt (by omega) q2) (by simp; exact Typ.cl _) rfl ?_
    cases c5 : tyF dt
    · simp only [go_sem, ↓reduceIte, reduceCtorEq, reduceLT, reduceEqDiff, Nat.reduceBEq, reduceAdd, reduceMul, reduceSub, reduceLeDiff, reduceReplicate]
      exact Fz.bool (bad (by rintro ⟨_, _, h, _⟩; rw [c5] at h; cases h))
    simp only [hd4, ht4, hle3, hb8, hb1, go_sem, ↓reduceIte, reduceCtorEq, reduceLT, reduceEqDiff, Nat.reduceBEq, reduceAdd, reduceMul, reduceSub, reduceLeDiff, reduceReplicate]
    refine callQ_intro _ (l03Ok db (by omega) q3) (by simp; exact Term.cl _) rfl ?_
    cases c6 : tmF db
    · simp only [go_sem, ↓reduceIte, reduceCtorEq, reduceLT, reduceEqDiff, Nat.reduceBEq, reduceAdd, reduceMul, reduceSub, reduceLeDiff, reduceReplicate]
      exact Fz.bool (bad (by rintro ⟨_, _, _, h⟩; rw [c6] at h; cases h))
    simp only [h5, go_sem, ↓reduceIte, reduceCtorEq, reduceLT, reduceEqDiff, Nat.reduceBEq, reduceAdd, reduceMul, reduceSub, reduceLeDiff, reduceReplicate]
    refine nextC_mk (by simp [setE, wrap_succ i (by omega)]) hlt ⟨rfl, ?_, next ⟨c3, c4, c5, c6⟩⟩
    simp only [e0, Def.sl, Dat.sl, List.forall_mem_cons, List.not_mem_nil, false_implies, implies_true, setE, ↓reduceIte, Nat.reduceEqDiff, reduceCtorEq, and_true, true_and, and_self, eq_self]
  · have hi' : i = ds.length := by simp at h; omega
    simp only [h, go_sem, ↓reduceIte, reduceCtorEq, reduceLT, reduceEqDiff, Nat.reduceBEq, reduceAdd, reduceMul, reduceSub, reduceLeDiff, reduceReplicate]
    refine Fz.bool ?_
    symm; rw [decide_eq_true_eq]
    exact ⟨c0, by omega, by omega, fun j hj => hp j hj (by omega)⟩
end Go.Proofs.YtcidmkcicagpaaaGreat
