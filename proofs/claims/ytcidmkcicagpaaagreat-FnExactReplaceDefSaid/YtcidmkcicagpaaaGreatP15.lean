/-
  Contract over data of the reference's ReplaceDef. No condition.
-/
import Derived.Test.YtcidmkcicagpaaaGreatP14
set_option maxRecDepth 100000
set_option linter.unusedSimpArgs false
set_option linter.unusedVariables false
namespace Go.Proofs.YtcidmkcicagpaaaGreat
open Go.Fw
open Classical in
theorem specReplaceDef (p : Prg) (d : Def) (hs : p.sz + d.sz ≤ 1048576) (ho : p.ok) (hd : d.ok) (r : D) (hr : repR p d = r) : SpG Tryz.prog 7 [.ag p.ds, .ag d.ds] [] [] r := by
  have hvp := l03Program p (by omega) ho
  have hpc := Prg.cl p
  obtain ⟨das, ds⟩ := p
  have ho' := ho
  have hsz' := hs
  simp only [Prg.ok] at ho'
  simp only [Prg.sz] at hs
  have hda : (Def.dsL ds).length = ds.length := Def.dsL_len ds
  have hfd := l03Named ds (Def.nm d) ho'.2.2.1
  have hdc := Def.cl d
  have hd12 := Def.ds_len d
  have hd1 : (d.ds).all oneD = true := by rw [List.all_eq_true]; exact Def.one d
  have hdt : List.take 12 d.ds = d.ds := List.take_of_length_le (by omega)
  have hdh : d.ds.head? = some (S (Def.nm d)) := by cases d; rfl
  simp only [Prg.ds, Dat.sl, Def.sl] at hvp hpc hfd
  have hcd := Def.clL ds
  refine SpG.of_vc [] [.cell 4 40, .tmp 5] Tryz.func7 rfl (by kernel_rfl) Tryz.ntmps7 rfl (by simp) rfl ?_
  simp only [Prg.ds, Dat.sl, Def.sl, go_sem, ↓reduceIte, reduceCtorEq, Nat.reduceLT, Nat.reduceEqDiff, Nat.reduceBEq, Nat.reduceAdd, Nat.reduceMul, Nat.reduceSub, Nat.reduceLeDiff, List.reduceReplicate]
  refine callK_intro _ hvp (by simpa using hpc) ?_
  by_cases c0 : progP (.mk das ds)
  case neg =>
    rw [repR0 c0] at hr
    subst hr
    simp only [decide_eq_false c0, go_sem, ↓reduceIte, reduceCtorEq, Nat.reduceLT, Nat.reduceEqDiff, Nat.reduceBEq, Nat.reduceAdd, Nat.reduceMul, Nat.reduceSub, Nat.reduceLeDiff, List.reduceReplicate]
    exact close_err rfl
  simp only [decide_eq_true c0, hdh, go_sem, ↓reduceIte, reduceCtorEq, Nat.reduceLT, Nat.reduceEqDiff, Nat.reduceBEq, Nat.reduceAdd, Nat.reduceMul, Nat.reduceSub, Nat.reduceLeDiff, List.reduceReplicate]
  refine callK_intro _ hfd (by simpa using hcd) ?_
  simp only [go_sem, ↓reduceIte, reduceCtorEq, Nat.reduceLT, Nat.reduceEqDiff, Nat.reduceBEq, Nat.reduceAdd, Nat.reduceMul, Nat.reduceSub, Nat.reduceLeDiff, List.reduceReplicate]
  by_cases c1 : namedF ds (Def.nm d) < 0
  · rw [repR1 c0 c1] at hr
    subst hr
    simp only [decide_eq_true c1, go_sem, ↓reduceIte, reduceCtorEq, Nat.reduceLT, Nat.reduceEqDiff, Nat.reduceBEq, Nat.reduceAdd, Nat.reduceMul, Nat.reduceSub, Nat.reduceLeDiff, List.reduceReplicate]
    exact close_err rfl
  obtain ⟨k, hk, ek⟩ := idxF_nn c1
  have ek : namedF ds (Def.nm d) = (k : Int) := ek
  have ck : decide ((k : Int) < 0) = false := by simp
  have hrows := Def.rows_len ds
  have hfl := flatten_len hrows
  have hall : (Def.dsL ds).flatten.all oneD = true := by
    rw [List.all_eq_true]; intro d hd
    obtain ⟨r, hr, hd⟩ := List.mem_flatten.1 hd
    rw [Def.dsL_eq, List.mem_map] at hr
    obtain ⟨x, _, rfl⟩ := hr
    exact Def.one x d hd
  have hset : (Def.dsL ds).flatten.take (k * 12) ++ d.ds ++ (Def.dsL ds).flatten.drop (k * 12 + 12) = (Def.dsL (ds.set k d)).flatten := by rw [flatten_set hd12 hrows (by omega), Def.dsL_set]
  have hkl : k * 12 + 12 ≤ (Def.dsL ds).flatten.length := by rw [hfl, hda]; omega
  have hki : ((k : Int) < (ds.length : Int)) = True := eq_true (by omega)
  simp only [ek, ck, hdt, hd1, hd12, go_sem, ↓reduceIte, reduceCtorEq, Nat.reduceLT, Nat.reduceEqDiff, Nat.reduceBEq, Nat.reduceAdd, Nat.reduceMul, Nat.reduceSub, Nat.reduceLeDiff, List.reduceReplicate]
  refine drawM_intro (fun _ => (false, .any)) [20] mixed (by kernel_rfl) ?_
  simp only [ek, ck, hdt, hd1, hd12, hda, hki, hall, go_sem, ↓reduceIte, reduceCtorEq, Nat.reduceLT, Nat.reduceEqDiff, Nat.reduceBEq, Nat.reduceAdd, Nat.reduceMul, Nat.reduceSub, Nat.reduceLeDiff, List.reduceReplicate]
  refine ⟨⟨by omega, by simp [maxLen]; omega⟩, hkl, ?_⟩
  rw [hset]
  have hvq := l03Program (.mk das (ds.set k d)) (by have := Prg.sz_set (das := das) (d := d) hk; omega) (Prg.ok_set ho hd)
  have hcq := l36Program (.mk das (ds.set k d)) (by have := Prg.sz_set (das := das) (d := d) hk; omega)
  simp only [Prg.ds, Dat.sl, Def.sl] at hvq hcq
  have hfz : ∀ H : Nat → Option Ob, H 24 = some ⟨0, 51, 12, (Def.dsL (ds.set k d)).flatten, none⟩ → H 7 = some ⟨0, 40, 2, [.sl 2 (Dat.dsL das), .ms 24 0 ds.length], none⟩ → Fz H (.rf 7 0 0) (.cp [.sl 2 (Dat.dsL das), .sl 12 (Def.dsL (ds.set k d))]) := fun H h h7 =>
    Fz.cells h7 rfl rfl (by simp only [List.zip_cons_cons, List.zip_nil_right, List.forall_mem_cons]; exact ⟨.cl _ (Dat.cl_sl das), Fz.rows h rfl rfl (by decide) (by rw [Def.dsL_len]; simp) (Def.rows_len _) rfl (Def.clL _), by simp⟩)
  refine callK_frz [.cp [.sl 2 (Dat.dsL das), .sl 12 (Def.dsL (ds.set k d))]] _ hvq rfl (by simp only [List.nil_append, List.append_nil, List.zip_cons_cons, List.zip_nil_right, List.forall_mem_cons]; exact ⟨hfz _ (by simp [upd]) (by simp [upd]), by simp⟩) rfl ?_
  by_cases c2 : progP (.mk das (ds.set k d))
  case neg =>
    rw [repR2 c0 ek c2] at hr
    subst hr
    simp only [decide_eq_false c2, go_sem, ↓reduceIte, reduceCtorEq, Nat.reduceLT, Nat.reduceEqDiff, Nat.reduceBEq, Nat.reduceAdd, Nat.reduceMul, Nat.reduceSub, Nat.reduceLeDiff, List.reduceReplicate]
    exact close_err rfl
  rw [repR3 c0 ek c2] at hr
  subst hr
  simp only [decide_eq_true c2, go_sem, ↓reduceIte, reduceCtorEq, Nat.reduceLT, Nat.reduceEqDiff, Nat.reduceBEq, Nat.reduceAdd, Nat.reduceMul, Nat.reduceSub, Nat.reduceLeDiff, List.reduceReplicate]
  refine callK_read [.cp [.sl 2 (Dat.dsL das), .sl 12 (Def.dsL (ds.set k d))]] _ hcq rfl (by simp only [List.nil_append, List.append_nil, List.zip_cons_cons, List.zip_nil_right, List.forall_mem_cons]; exact ⟨.fz (hfz _ (by simp [upd]) (by simp [upd])), by simp⟩) ?_
  intro e T hO
  obtain ⟨a1, n1, c1', F1, a2, n2, c2', F2, rfl, rfl⟩ := prg_open hO
  simp only [go_sem, ↓reduceIte, reduceCtorEq, Nat.reduceLT, Nat.reduceEqDiff, Nat.reduceBEq, Nat.reduceAdd, Nat.reduceMul, Nat.reduceSub, Nat.reduceLeDiff, List.reduceReplicate]
  exact close_prg rfl
end Go.Proofs.YtcidmkcicagpaaaGreat
