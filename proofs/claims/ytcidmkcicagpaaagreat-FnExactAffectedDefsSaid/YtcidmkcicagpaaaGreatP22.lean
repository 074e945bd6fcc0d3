/-
  Which definitions a definition uses, and which it comes to: the program. No condition.
-/
import Derived.Test.YtcidmkcicagpaaaGreatP21
set_option maxRecDepth 100000
set_option linter.unusedSimpArgs false
set_option linter.unusedVariables false
namespace Go.Proofs.YtcidmkcicagpaaaGreat
open Go.Fw
open Nat (reduceLT reduceEqDiff reduceAdd reduceMul reduceSub reduceLeDiff)
open List (reduceReplicate)
theorem Z_get (l : List Int) (k : Nat) (h : k < l.length) : (Z l)[k]? = some [I l[k]] := by simp [Z, h]
theorem Z_l (l : List Int) : (Z l).length = l.length := by simp
theorem Z_app (a b : List Int) : Z (a ++ b) = Z a ++ Z b := by simp
theorem indexInt (l : List Int) (v : Int) (hl : l.length ≤ 1048576) : Sp Tryz.prog 89 [.sl 1 (Z l), I v] (I (idxF (fun x => decide (x = v)) l)) := by
  have hda : (Z l).length = l.length := Z_l l
  refine Sp.of_vc [] [.tmp 4] Tryz.func89 rfl (by kernel_rfl) Tryz.ntmps89 rfl (by simp) ?_
  simp only [go_sem, ↓reduceIte, reduceCtorEq, reduceLT, reduceEqDiff, Nat.reduceBEq, reduceAdd, reduceMul, reduceSub, reduceLeDiff, reduceReplicate, hda]
  refine loop_count 8 l.length (fun k => Fw.Inv 19 [(0, .sl 1 (Z l)), (1, I v), (7, I l.length)] ((l.take k).any (fun x => decide (x = v)) = false)) rfl ⟨rfl, by simp [envOf, setE], by simp⟩ ?_
  rintro k ⟨env, H, n, nt⟩ hk h5 ⟨rfl, hfs, hp⟩
  simp only [List.forall_mem_cons] at h5 hfs
  obtain ⟨e0, e1, e2, -⟩ := hfs
  simp only [h5, e2, hda, go_sem, ↓reduceIte, reduceCtorEq, reduceLT, reduceEqDiff, Nat.reduceBEq, reduceAdd, reduceMul, reduceSub, reduceLeDiff, reduceReplicate]
  refine condK_split (fun h => ?_) (fun h => ?_)
  · have hlt : k < l.length := by simpa using h
    have g0 := Z_get l k hlt
    simp only [h, h5, e0, e1, e2, g0, hda, go_sem, ↓reduceIte, reduceCtorEq, reduceLT, reduceEqDiff, Nat.reduceBEq, reduceAdd, reduceMul, reduceSub, reduceLeDiff, reduceReplicate]
    by_cases hc : l[k] = v
    · have f1 : (v == l[k]) = true := by simp [hc]
      simp only [f1, go_sem, ↓reduceIte, reduceCtorEq, reduceLT, reduceEqDiff, Nat.reduceBEq, reduceAdd, reduceMul, reduceSub, reduceLeDiff, reduceReplicate]
      exact Fz.int (idxF_hit hlt hp (by simp [hc])).symm
    · have f1 : (v == l[k]) = false := by simp [Ne.symm hc]
      simp only [f1, h5, go_sem, ↓reduceIte, reduceCtorEq, reduceLT, reduceEqDiff, Nat.reduceBEq, reduceAdd, reduceMul, reduceSub, reduceLeDiff, reduceReplicate]
      refine nextC_mk (by simp [setE, wrap_succ k (by omega)]) hlt ⟨rfl, by simp [setE, e0, e1, e2], ?_⟩
      rw [any_take_succ hlt, hp]; simp [hc]
  · have hk' : k = l.length := by simp at h; omega
    simp only [h, go_sem, ↓reduceIte, reduceCtorEq, reduceLT, reduceEqDiff, Nat.reduceBEq, reduceAdd, reduceMul, reduceSub, reduceLeDiff, reduceReplicate]
    refine Fz.int ?_
    rw [hk', List.take_length] at hp
    exact (idxF_none hp).symm
theorem any_mem (l : List Int) (v : Int) : (l.any fun x => decide (x = v)) = decide (v ∈ l) := by
  by_cases h : v ∈ l
  · simp [h]
  · rw [decide_eq_false h, List.any_eq_false]
    intro x hx
    simp only [decide_eq_true_eq]
    rintro rfl; exact h hx
theorem containsInt (l : List Int) (v : Int) (hl : l.length ≤ 1048576) : Sp Tryz.prog 49 [.sl 1 (Z l), I v] (B (decide (v ∈ l))) := by
  refine Sp.of_vc [] [.tmp 4] Tryz.func49 rfl (by kernel_rfl) Tryz.ntmps49 rfl (by simp) ?_
  simp only [go_sem, ↓reduceIte, reduceCtorEq, reduceLT, reduceEqDiff, Nat.reduceBEq, reduceAdd, reduceMul, reduceSub, reduceLeDiff, reduceReplicate]
  refine callK_intro _ (indexInt l v hl) (by simp only [List.nil_append, List.append_nil, List.forall_mem_cons]; exact ⟨cl_Z l, cl_sc _, by simp⟩) ?_
  simp only [go_sem, ↓reduceIte, reduceCtorEq, reduceLT, reduceEqDiff, Nat.reduceBEq, reduceAdd, reduceMul, reduceSub, reduceLeDiff, reduceReplicate]
  exact Fz.bool ((idxF_any l).trans (any_mem l v))
/-! ### The free names are told once -/
theorem hasS_mem {l : List ByteArray} {v : ByteArray} (h : hasS l v = false) : v ∉ l := fun hv => by
  have := List.any_eq_false.1 h v hv
  simp at this
mutual
theorem freeF_nodup : ∀ (t : Term) (sc out : List ByteArray), out.Nodup → (freeF t sc out).Nodup
  | .mk k v n ty ns ks, sc, out, h => by
    rw [freeF]
    refine freeS_nodup k n ns ks 0 sc _ ?_
    split
    · rename_i q
      simp only [Bool.and_eq_true, Bool.not_eq_true'] at q
      rw [List.nodup_append]
      exact ⟨h, by simp, fun a ha b hb => by simp at hb; subst hb; rintro rfl; exact hasS_mem q.2 ha⟩
    · exact h
theorem freeS_nodup (k : Int) (n : ByteArray) (ns : List ByteArray) : ∀ (l : List Term) (i : Nat) (sc out : List ByteArray), out.Nodup → (freeS k n ns l i sc out).Nodup
  | [], i, sc, out, h => h
  | t :: l, i, sc, out, h => by
    rw [freeS]
    exact freeS_nodup k n ns l (i + 1) sc _ (freeF_nodup t _ _ h)
end
theorem namedF_at {ds : List Def} {n : ByteArray} (h : 0 ≤ namedF ds n) : ∃ (i : Nat) (hi : i < ds.length), namedF ds n = i ∧ Def.nm ds[i] = n := by
  obtain ⟨i, hi, e1, e2⟩ := idxF_sp h
  exact ⟨i, hi, e1, by simpa using e2⟩
theorem namedF_inj {ds : List Def} {n m : ByteArray} (h : 0 ≤ namedF ds n) (e : namedF ds n = namedF ds m) : n = m := by
  obtain ⟨i, hi, e1, e2⟩ := namedF_at h
  obtain ⟨j, hj, e3, e4⟩ := namedF_at (e ▸ h)
  have : i = j := by omega
  subst this
  rw [← e2, e4]
/-- the numbers of the definitions that one uses, as they come -/
def numsF (ds : List Def) (d : Def) : List Int := (freeF (Def.bd d) [] []).map (namedF ds)
noncomputable def useF (ds : List Def) (i : Int) : List Int := match ds[i.toNat]? with | some d => srtF (numsF ds d) | none => []
structure Named (ds : List Def) : Prop where
  len : ds.length ≤ 8
  all : ∀ d ∈ ds, ∀ n ∈ freeF (Def.bd d) [] [], 0 ≤ namedF ds n
theorem nums_rng {ds : List Def} (h : Named ds) {d : Def} (hd : d ∈ ds) : ∀ a ∈ numsF ds d, 0 ≤ a ∧ a < (ds.length : Int) := fun a ha => by
  obtain ⟨n, hn, rfl⟩ := List.mem_map.1 ha
  obtain ⟨i, hi, e, -⟩ := namedF_at (h.all d hd n hn)
  omega
theorem nums_nodup {ds : List Def} (h : Named ds) {d : Def} (hd : d ∈ ds) : (numsF ds d).Nodup := by
  have h1 := freeF_nodup (Def.bd d) [] [] .nil
  have h2 := h.all d hd
  unfold numsF
  generalize freeF (Def.bd d) [] [] = l at h1 h2
  induction l with
  | nil => simp
  | cons n l ih =>
    have h1' := List.nodup_cons.1 h1
    rw [List.map_cons, List.nodup_cons]
    refine ⟨fun k => ?_, ih h1'.2 fun m hm => h2 m (by simp [hm])⟩
    obtain ⟨m, hm, e⟩ := List.mem_map.1 k
    have := namedF_inj (h2 n (by simp)) e.symm
    subst this
    exact h1'.1 hm
theorem nums_len {ds : List Def} (h : Named ds) {d : Def} (hd : d ∈ ds) : (numsF ds d).length ≤ 8 := Nat.le_trans (nodup_len (nums_nodup h hd) (nums_rng h hd)) h.len
theorem useF_at {ds : List Def} (i : Nat) (hi : i < ds.length) : useF ds i = srtF (numsF ds ds[i]) := by simp [useF, hi]
theorem useF_rng {ds : List Def} (h : Named ds) (i : Int) (h0 : 0 ≤ i) (h1 : i < ds.length) : ∀ d ∈ useF ds i, 0 ≤ d ∧ d < (ds.length : Int) := fun a ha => by
  obtain ⟨k, rfl⟩ : ∃ k : Nat, i = k := ⟨i.toNat, by omega⟩
  rw [useF_at k (by omega)] at ha
  exact nums_rng h (List.getElem_mem (by omega)) a ((srtF_perm _).mem_iff.1 ha)
theorem useF_len {ds : List Def} (h : Named ds) (i : Int) : (useF ds i).length ≤ 8 := by
  unfold useF
  split
  · rename_i d hd
    rw [(srtF_perm _).length_eq]
    exact nums_len h (List.mem_of_getElem? hd)
  · simp
theorem usedDefs (das : List Dat) (ds : List Def) (hn : Named ds) (k : Nat) (hk : k < ds.length) (hg : gdM (Def.bd ds[k]) = true) (hs : (Def.bd ds[k]).sz ≤ 1048576) :
    Sp Tryz.prog 92 [.ag [Dat.sl das, Def.sl ds], I k] (.sl 1 (Z (useF ds k))) := by
  have hdl : (Def.dsL ds).length = ds.length := Def.dsL_len ds
  have el : elemInfo Tryz.prog 58 = some (2, 1, 8) := by kernel_rfl
  have hn8 := hn.len
  have hfl := freeF_len (Def.bd ds[k]) [] []
  have hnl := Term.num_le_sz (Def.bd ds[k])
  have hfr := freeNames (Def.bd ds[k]) hg hs
  have hul := nums_len hn (List.getElem_mem hk)
  have hso := sort (numsF ds ds[k]) (by omega)
  have g0 := Def.dsL_get ds k hk
  rw [useF_at k hk]
  obtain ⟨d, hdd⟩ : ∃ d, d = ds[k] := ⟨_, rfl⟩
  rw [← hdd] at g0 hfr hfl hnl hul hso ⊢
  have hnf : ∀ x, Sp Tryz.prog 33 [.ag [Dat.sl das, Def.sl ds], S x] (I (namedF ds x)) := fun x => findDef das ds x (by unfold maxLen; omega)
  simp only [Dat.sl, Def.sl] at hnf
  obtain ⟨fl, hflx⟩ : ∃ fl, fl = freeF (Def.bd d) [] [] := ⟨_, rfl⟩
  have hnu : numsF ds d = fl.map (namedF ds) := by rw [hflx]; rfl
  rw [hnu] at hul hso ⊢
  rw [← hflx] at hfr hfl
  have hfl8 : fl.length ≤ 8 := by simpa using hul
  obtain ⟨dn, ⟨tk, tn, tks⟩, ⟨bk, bv, bn, ⟨uk, un, uks⟩, ns, ks⟩⟩ := d
  simp only [Def.bd] at hfr
  simp only [Def.ds, Term.ds, Typ.ds, strs, List.cons_append, List.nil_append] at g0 hfr
  have hkk : ((k : Int) < (ds.length : Int)) = True := eq_true (by omega)
  refine Sp.of_vc [1000025] [.tmp 4] Tryz.func92 rfl (by kernel_rfl) Tryz.ntmps92 rfl (by simp) ?_
  simp only [Dat.sl, Def.sl, g0, hdl, hkk, Int.toNat_natCast, go_sem, ↓reduceIte, reduceCtorEq, reduceLT, reduceEqDiff, Nat.reduceBEq, reduceAdd, reduceMul, reduceSub, reduceLeDiff, reduceReplicate]
  refine callK_intro _ hfr (by simp only [List.nil_append, List.append_nil, List.forall_mem_cons]; exact ⟨Cl.ag' (by simp; exact ⟨Typ.clL _, Term.clL _⟩), by simp⟩) ?_
  simp only [R_len, go_sem, ↓reduceIte, reduceCtorEq, reduceLT, reduceEqDiff, Nat.reduceBEq, reduceAdd, reduceMul, reduceSub, reduceLeDiff, reduceReplicate]
  refine loop_count 16 fl.length (fun j => Fw.InvE 30 [(2, .cp [.sl 2 (Dat.dsL das), .sl 12 (Def.dsL ds)]), (14, .sl 1 (R fl)), (15, I fl.length)] fun env H n T => Lst [25] H 2 1 (Z ((fl.take j).map (namedF ds))) (env 5)) rfl ⟨rfl, by simp [envOf, setE], by simp [setE]; exact .inl ⟨rfl, rfl⟩⟩ ?_
  rintro j ⟨env, H, n', nt, T⟩ hj h5 ⟨rfl, hfs, hx⟩
  simp only [List.forall_mem_cons] at h5 hfs hx
  obtain ⟨e2, e14, e15, -⟩ := hfs
  obtain ⟨y, e5⟩ : ∃ y, env 5 = y := ⟨_, rfl⟩
  rw [e5] at hx
  simp only [h5, e15, go_sem, ↓reduceIte, reduceCtorEq, reduceLT, reduceEqDiff, Nat.reduceBEq, reduceAdd, reduceMul, reduceSub, reduceLeDiff, reduceReplicate]
  refine condK_split (fun h => ?_) (fun h => ?_)
  · have hlt : j < fl.length := by simpa using h
    have g1 : (R fl)[j]? = some [S fl[j]] := by simp [R, hlt]
    simp only [h, h5, e2, e5, e14, e15, g1, R_len, go_sem, ↓reduceIte, reduceCtorEq, reduceLT, reduceEqDiff, Nat.reduceBEq, reduceAdd, reduceMul, reduceSub, reduceLeDiff, reduceReplicate]
    refine callK_intro _ (hnf fl[j]) (by simp only [List.nil_append, List.append_nil, List.forall_mem_cons]; exact ⟨Cl.ag' (by simp; exact ⟨Dat.clL _, Def.clL _⟩), cl_sc _, by simp⟩) ?_
    simp only [go_sem, ↓reduceIte, reduceCtorEq, reduceLT, reduceEqDiff, Nat.reduceBEq, reduceAdd, reduceMul, reduceSub, reduceLeDiff, reduceReplicate]
    refine GK.intro (opK.app (S := [25]) (rows := Z ((fl.take j).map (namedF ds))) (rows2 := Z [namedF ds fl[j]]) el (by simp only [setE, if_true, reduceCtorEq, if_false, Nat.reduceEqDiff]; exact hx.congr (by simp [upd])) (Z_len _) (by simp [setE, newsD, upd]) (by simp) (by simp [oneD, Value.oneCell']) (by rw [Z_l, Z_l]; simp; omega) (by rw [Z_l, Z_l]; simp only [List.length_cons, List.length_nil, List.length_map, List.length_take]; unfold maxLen; omega) fun H' n' x' hx' hH => ?_)
    simp only [h5, go_sem, ↓reduceIte, reduceCtorEq, reduceLT, reduceEqDiff, Nat.reduceBEq, reduceAdd, reduceMul, reduceSub, reduceLeDiff, reduceReplicate]
    refine nextC_mk (by simp [setE, wrap_succ j (by omega)]) hlt ⟨rfl, by simp [setE, e2, e14, e15], ?_⟩
    have ht : (fl.take j).map (namedF ds) ++ [namedF ds fl[j]] = (fl.take (j + 1)).map (namedF ds) := by rw [List.take_succ_eq_append_getElem hlt, List.map_append]; rfl
    rw [← Z_app, ht] at hx'
    simpa [setE] using hx'
  · have hj' : j = fl.length := by simp at h; omega
    subst hj'
    rw [List.take_length] at hx
    simp only [h, e5, go_sem, ↓reduceIte, reduceCtorEq, reduceLT, reduceEqDiff, Nat.reduceBEq, reduceAdd, reduceMul, reduceSub, reduceLeDiff, reduceReplicate]
    refine callK_write [25] [] y 2 1 _ _ _ hso rfl hx (by simp) ?_
    intro H' hx' hH'
    simp only [e5, go_sem, ↓reduceIte, reduceCtorEq, reduceLT, reduceEqDiff, Nat.reduceBEq, reduceAdd, reduceMul, reduceSub, reduceLeDiff, reduceReplicate]
    exact hx'.fz (by decide) (Z_len _) (Z_cl _)
open Classical in
theorem code_named {das : List Dat} {ds : List Def} (h : codeN (.mk das ds) = 0) : progP (.mk das ds) ∧ Named ds := by
  rw [codeN] at h
  by_cases c0 : progP (.mk das ds)
  · rw [if_pos c0] at h
    cases c1 : ds.any (unkD das ds)
    · refine ⟨c0, c0.2.2.1, fun d hd n hn => ?_⟩
      have := List.any_eq_false.1 c1 d hd
      simp only [unkD, Bool.or_eq_true, not_or, Bool.not_eq_true'] at this
      have h3 := this.1.2
      simp only [Bool.not_eq_true, List.any_eq_false, decide_eq_true_eq] at h3
      have := h3 n hn
      omega
    · rw [c1] at h; simp at h
  · rw [if_neg c0] at h; simp at h
theorem hasDef (das : List Dat) (ds : List Def) (k : Nat) (hk : k < ds.length) : Sp Tryz.prog 91 [.ag [Dat.sl das, Def.sl ds], I k] (B true) := by
  have hdl : (Def.dsL ds).length = ds.length := Def.dsL_len ds
  have h1 : decide ((k : Int) ≥ 0) = true := decide_eq_true (by omega)
  have h2 : decide ((k : Int) < (ds.length : Int)) = true := decide_eq_true (by omega)
  refine Sp.of_vc [] [.tmp 4] Tryz.func91 rfl (by kernel_rfl) Tryz.ntmps91 rfl (by simp) ?_
  simp only [Dat.sl, Def.sl, h1, h2, hdl, go_sem, ↓reduceIte, reduceCtorEq, reduceLT, reduceEqDiff, Nat.reduceBEq, reduceAdd, reduceMul, reduceSub, reduceLeDiff, reduceReplicate]
  exact Fz.bool rfl
/-- what holds of the list while it grows -/
def GoodA (u : Int → List Int) (n : Nat) (k : Int) (out : List Int) : Prop := out.Nodup ∧ k ∈ out ∧ ∀ a ∈ out, (0 ≤ a ∧ a < (n : Int)) ∧ Rch u k a
theorem reachableDefs0 (das : List Dat) (ds : List Def) (hs : (Prg.mk das ds).sz ≤ 1048576) (ho : (Prg.mk das ds).ok) (hc : codeN (.mk das ds) ≠ 0) (k : Nat) : Sp Tryz.prog 50 [.ag [Dat.sl das, Def.sl ds], I k] (.sl 1 []) := by
  have hcn := checkNames (.mk das ds) hs ho
  simp only [Prg.ds, Dat.sl, Def.sl] at hcn
  have h1 : (!(codeN (.mk das ds) == 0)) = true := by simp [hc]
  have hcl : Cl (.ag [D.sl 2 (Dat.dsL das), D.sl 12 (Def.dsL ds)]) := Cl.ag' (by simp; exact ⟨Dat.clL _, Def.clL _⟩)
  refine Sp.of_vc [] [.tmp 4] Tryz.func50 rfl (by kernel_rfl) Tryz.ntmps50 rfl (by simp) ?_
  simp only [Dat.sl, Def.sl, go_sem, ↓reduceIte, reduceCtorEq, reduceLT, reduceEqDiff, Nat.reduceBEq, reduceAdd, reduceMul, reduceSub, reduceLeDiff, reduceReplicate]
  refine callK_intro _ hcn (by simp only [List.nil_append, List.append_nil, List.forall_mem_cons]; exact ⟨hcl, by simp⟩) ?_
  simp only [bne, h1, go_sem, ↓reduceIte, reduceCtorEq, reduceLT, reduceEqDiff, Nat.reduceBEq, reduceAdd, reduceMul, reduceSub, reduceLeDiff, reduceReplicate]
  exact .nil 1
theorem reachableDefs (das : List Dat) (ds : List Def) (hs : (Prg.mk das ds).sz ≤ 1048576) (ho : (Prg.mk das ds).ok) (hc : codeN (.mk das ds) = 0) (k : Nat) (hk : k < ds.length) :
    Sp Tryz.prog 50 [.ag [Dat.sl das, Def.sl ds], I k] (.sl 1 (Z (fromL (useF ds) ds.length k))) := by
  have hcn := checkNames (.mk das ds) hs ho
  obtain ⟨c0, hn⟩ := code_named hc
  have hhd := hasDef das ds k hk
  rw [hc] at hcn
  have hn8 := hn.len
  have hcl : Cl (.ag [D.sl 2 (Dat.dsL das), D.sl 12 (Def.dsL ds)]) := Cl.ag' (by simp; exact ⟨Dat.clL _, Def.clL _⟩)
  have el : elemInfo Tryz.prog 58 = some (2, 1, 8) := by kernel_rfl
  have hus : ∀ (a : Int), 0 ≤ a → a < ds.length → Sp Tryz.prog 92 [.ag [Dat.sl das, Def.sl ds], I a] (.sl 1 (Z (useF ds a))) := fun a h0 h1 => by
    obtain ⟨j, rfl⟩ : ∃ j : Nat, a = j := ⟨a.toNat, by omega⟩
    have hj : j < ds.length := by omega
    have hm : ds[j] ∈ ds := List.getElem_mem hj
    simp only [Prg.sz] at hs
    have h1 := Def.sz_mem hm
    have h2 := sz_bd ds[j]
    exact usedDefs das ds hn j hj (prog_bd c0 _ hm).1 (by omega)
  have hlen : ∀ out, GoodA (useF ds) ds.length k out → out.length ≤ 8 := fun out h => Nat.le_trans (nodup_len h.1 fun a ha => (h.2.2 a ha).1) hn8
  simp only [Prg.ds, Dat.sl, Def.sl] at hcn hhd hus
  refine Sp.of_vc [1000044] [.tmp 4] Tryz.func50 rfl (by kernel_rfl) Tryz.ntmps50 rfl (by simp) ?_
  simp only [Dat.sl, Def.sl, go_sem, ↓reduceIte, reduceCtorEq, reduceLT, reduceEqDiff, Nat.reduceBEq, reduceAdd, reduceMul, reduceSub, reduceLeDiff, reduceReplicate]
  refine callK_intro _ hcn (by simp only [List.nil_append, List.append_nil, List.forall_mem_cons]; exact ⟨hcl, by simp⟩) ?_
  have h00 : (!((0 : Int) == 0)) = false := rfl
  simp only [bne, h00, go_sem, ↓reduceIte, reduceCtorEq, reduceLT, reduceEqDiff, Nat.reduceBEq, reduceAdd, reduceMul, reduceSub, reduceLeDiff, reduceReplicate]
  refine callK_intro _ hhd (by simp only [List.nil_append, List.append_nil, List.forall_mem_cons]; exact ⟨hcl, cl_sc _, by simp⟩) ?_
  simp only [go_sem, ↓reduceIte, reduceCtorEq, reduceLT, reduceEqDiff, Nat.reduceBEq, reduceAdd, reduceMul, reduceSub, reduceLeDiff, reduceReplicate]
  refine loop_meas (fun s => s.nt = 49 ∧ ∃ (i : Nat) (out : List Int) (y : D), s.env 6 = I i ∧ s.env 2 = .cp [.sl 2 (Dat.dsL das), .sl 12 (Def.dsL ds)] ∧ s.env 5 = y ∧ Lst [19, 44] s.H 2 1 (Z out) y ∧ i ≤ out.length ∧ GoodA (useF ds) ds.length k out ∧ ∀ a ∈ out.take i, ∀ d ∈ useF ds a, d ∈ out)
    (fun s => match s.env 6 with | .sc (.int _ n) => 8 - n.toNat | _ => 0) ⟨rfl, 0, [(k : Int)], _, by simp [setE], by simp [setE, envOf], by simp [setE]; rfl, .inr ⟨19, _, by simp, rfl, by simp [upd]⟩, by simp, ⟨by simp, by simp, fun a ha => by simp at ha; subst ha; exact ⟨by omega, .refl _⟩⟩, by simp⟩ ?_
  rintro ⟨env, H, n', nt, T⟩ ⟨rfl, i, out, y, e6, e2, e5, hx, hi, hG, hcls⟩
  simp only at e6 e2 e5 hx
  have ho8 := hlen out hG
  have hy0 : y = y := rfl
  rcases hx with ⟨h0, -⟩ | ⟨t, gn, ht, rfl, hH⟩
  · have : out = [] := sort_nil out h0
    subst this
    exact absurd hG.2.1 (by simp)
  simp only [e6, e2, e5, List.length_map, go_sem, ↓reduceIte, reduceCtorEq, reduceLT, reduceEqDiff, Nat.reduceBEq, reduceAdd, reduceMul, reduceSub, reduceLeDiff, reduceReplicate]
  refine condK_split (fun h => ?_) (fun h => ?_)
  · have hlt : i < out.length := by simpa using h
    have hmem : out[i] ∈ out := List.getElem_mem hlt
    obtain ⟨hr1, hr2⟩ := hG.2.2 _ hmem
    have hu := hus out[i] hr1.1 hr1.2
    have hur := useF_rng hn out[i] hr1.1 hr1.2
    have hul := useF_len hn out[i]
    have hL : Lst [19, 44] H 2 1 (Z (out ++ [])) (.ms t gn out.length) := by rw [List.append_nil]; exact .inr ⟨t, gn, ht, by rw [Z_l], hH⟩
    obtain ⟨us, husx⟩ : ∃ us, us = useF ds out[i] := ⟨_, rfl⟩
    rw [← husx] at hul
    rw [← husx] at hu hur
    have hil : ((i : Int) < (out.length : Int)) = True := eq_true (by omega)
    have hcell : (Z out).flatten[i]? = some (I out[i]) := by rw [Z_flat]; simp [hlt]
    simp only [h, go_sem, ↓reduceIte, reduceCtorEq, reduceLT, reduceEqDiff, Nat.reduceBEq, reduceAdd, reduceMul, reduceSub, reduceLeDiff, reduceReplicate]
    refine drawK_intro mixed (by kernel_rfl) ?_
    simp only [e6, e2, e5, hH, hil, hcell, List.head?_drop, Int.toNat_natCast, Nat.mul_one, List.length_map, go_sem, ↓reduceIte, reduceCtorEq, reduceLT, reduceEqDiff, Nat.reduceBEq, reduceAdd, reduceMul, reduceSub, reduceLeDiff, reduceReplicate]
    refine callQ_intro _ hu (by simp only [List.nil_append, List.append_nil, List.forall_mem_cons]; exact ⟨hcl, cl_sc _, by simp⟩) rfl ?_
    simp only [List.length_map, go_sem, ↓reduceIte, reduceCtorEq, reduceLT, reduceEqDiff, Nat.reduceBEq, reduceAdd, reduceMul, reduceSub, reduceLeDiff, reduceReplicate]
    refine loop_count 33 us.length (fun j => Fw.InvE 49 [(2, .cp [.sl 2 (Dat.dsL das), .sl 12 (Def.dsL ds)]), (6, I i), (31, .sl 1 (Z us)), (32, I us.length)] fun env H n T => ∃ e : List Int, Lst [19, 44] H 2 1 (Z (out ++ e)) (env 5) ∧ GoodA (useF ds) ds.length k (out ++ e) ∧ ∀ d ∈ us.take j, d ∈ out ++ e) rfl
      ⟨rfl, by simp [setE, e2, e6], ⟨[], by simpa [setE, e5] using hL, by simpa using hG, by simp⟩⟩ ?_
    rintro j ⟨env2, H2, n2, nt2, T2⟩ hj h5 ⟨rfl, hfs, ⟨ex, kx, kG, kcl⟩⟩
    simp only [List.forall_mem_cons] at h5 hfs kx
    obtain ⟨k2, k6, k31, k32, -⟩ := hfs
    obtain ⟨y, k5⟩ : ∃ y, env2 5 = y := ⟨_, rfl⟩
    rw [k5] at kx
    have k8 := hlen _ kG
    simp only [h5, k32, go_sem, ↓reduceIte, reduceCtorEq, reduceLT, reduceEqDiff, Nat.reduceBEq, reduceAdd, reduceMul, reduceSub, reduceLeDiff, reduceReplicate]
    refine condK_split (fun h => ?_) (fun h => ?_)
    · have jlt : j < us.length := by simpa using h
      have g1 := Z_get us j jlt
      obtain ⟨ur1, ur2⟩ := hur us[j] (List.getElem_mem jlt)
      have urr : Rch (useF ds) k us[j] := hr2.last (husx ▸ List.getElem_mem jlt)
      simp only [h, h5, k2, k6, k5, k31, k32, g1, List.length_map, go_sem, ↓reduceIte, reduceCtorEq, reduceLT, reduceEqDiff, Nat.reduceBEq, reduceAdd, reduceMul, reduceSub, reduceLeDiff, reduceReplicate]
      refine callK_frz [.sl 1 (Z (out ++ ex)), I us[j]] _ (containsInt (out ++ ex) us[j] (by omega)) rfl (by simp only [List.nil_append, List.append_nil, List.zip_cons_cons, List.zip_nil_right, List.forall_mem_cons]; exact ⟨kx.fz (by decide) (Z_len _) (Z_cl _), .cl _ (cl_sc _), by simp⟩) rfl ?_
      by_cases q : us[j] ∈ out ++ ex
      · simp only [decide_eq_true q, h5, go_sem, ↓reduceIte, reduceCtorEq, reduceLT, reduceEqDiff, Nat.reduceBEq, reduceAdd, reduceMul, reduceSub, reduceLeDiff, reduceReplicate]
        refine nextC_mk (by simp [setE, wrap_succ j (by omega)]) jlt ⟨rfl, by simp [setE, k2, k6, k31, k32], ⟨ex, by simpa [setE, k5] using kx, kG, ?_⟩⟩
        intro d hd
        rw [List.take_succ_eq_append_getElem jlt, List.mem_append, List.mem_singleton] at hd
        rcases hd with hd | rfl
        · exact kcl d hd
        · exact q
      · simp only [decide_eq_false q, k5, go_sem, ↓reduceIte, reduceCtorEq, reduceLT, reduceEqDiff, Nat.reduceBEq, reduceAdd, reduceMul, reduceSub, reduceLeDiff, reduceReplicate]
        have hnd : (out ++ ex ++ [us[j]]).Nodup := by
          rw [List.nodup_append]
          exact ⟨kG.1, by simp, fun a ha b hb => by simp at hb; subst hb; rintro rfl; exact q ha⟩
        have kG' : GoodA (useF ds) ds.length k (out ++ ex ++ [us[j]]) := ⟨hnd, List.mem_append_left _ kG.2.1, fun a ha => by
          rcases List.mem_append.1 ha with ha | ha
          · exact kG.2.2 a ha
          · simp at ha; subst ha; exact ⟨⟨ur1, ur2⟩, urr⟩⟩
        refine GK.intro (opK.app (S := [19, 44]) (rows := Z (out ++ ex)) (rows2 := Z [us[j]]) el (by simp only [setE, if_true, reduceCtorEq, if_false, Nat.reduceEqDiff]; exact kx.congr (by simp [upd])) (Z_len _) (by simp [setE, newsD, upd]) (by simp) (by simp [oneD, Value.oneCell']) (by rw [Z_l, Z_l]; simp at k8 ⊢; omega) (by rw [Z_l, Z_l]; unfold maxLen; simp at k8 ⊢; omega) fun H' n' x' hx' hH => ?_)
        simp only [h5, go_sem, ↓reduceIte, reduceCtorEq, reduceLT, reduceEqDiff, Nat.reduceBEq, reduceAdd, reduceMul, reduceSub, reduceLeDiff, reduceReplicate]
        refine nextC_mk (by simp [setE, wrap_succ j (by omega)]) jlt ⟨rfl, by simp [setE, k2, k6, k31, k32], ⟨ex ++ [us[j]], ?_, ?_, ?_⟩⟩
        · rw [← Z_app, List.append_assoc] at hx'
          simpa [setE] using hx'.sub (S' := [19, 44]) (by simp)
        · rw [← List.append_assoc]; exact kG'
        · intro d hd
          rw [← List.append_assoc]
          rw [List.take_succ_eq_append_getElem jlt, List.mem_append, List.mem_singleton] at hd
          rcases hd with hd | rfl
          · exact List.mem_append_left _ (kcl d hd)
          · simp
    · have hj' : j = us.length := by simp at h; omega
      subst hj'
      rw [List.take_length] at kcl
      simp only [h, k6, go_sem, ↓reduceIte, reduceCtorEq, reduceLT, reduceEqDiff, Nat.reduceBEq, reduceAdd, reduceMul, reduceSub, reduceLeDiff, reduceReplicate]
      refine ⟨⟨rfl, i + 1, out ++ ex, y, by simp [setE, wrap_succ i (by omega)], by simp [setE, k2], by simp [setE, k5], kx, by simp; omega, kG, ?_⟩, ?_⟩
      · intro a ha d hd
        rw [List.take_append_of_le_length (by omega), List.take_succ_eq_append_getElem hlt, List.mem_append, List.mem_singleton] at ha
        rcases ha with ha | rfl
        · exact List.mem_append_left _ (hcls a ha d hd)
        · exact kcl d (husx ▸ hd)
      · simp [setE, wrap_succ i (by omega), e6]; omega
  · have hi' : i = out.length := by simp at h; omega
    subst hi'
    rw [List.take_length] at hcls
    have hfin : srtF out = fromL (useF ds) ds.length k := srtF_asc hG.1 (asc_fromL _) (ahead_eq hG.2.1 (fun a ha => (hG.2.2 a ha).1) (fun a ha => (hG.2.2 a ha).2) hcls)
    simp only [h, e5, List.length_map, go_sem, ↓reduceIte, reduceCtorEq, reduceLT, reduceEqDiff, Nat.reduceBEq, reduceAdd, reduceMul, reduceSub, reduceLeDiff, reduceReplicate]
    refine callK_write [19, 44] [] _ 2 1 _ _ _ (sort out (by omega)) rfl (.inr ⟨t, gn, ht, by rw [List.length_map], hH⟩) (by simp) ?_
    intro H' hx' hH'
    simp only [e5, go_sem, ↓reduceIte, reduceCtorEq, reduceLT, reduceEqDiff, Nat.reduceBEq, reduceAdd, reduceMul, reduceSub, reduceLeDiff, reduceReplicate]
    rw [← hfin]
    exact hx'.fz (by decide) (Z_len _) (Z_cl _)
end Go.Proofs.YtcidmkcicagpaaaGreat
