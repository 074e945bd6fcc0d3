/-
  Contracts over data of ReplaceDef, of the program and of the reference. No condition.
-/
import Derived.Test.YtcidmkcicagpaaaGreatP13
import Derived.Test.YtcidmkcicagpaaaGreatP10
set_option maxRecDepth 100000
set_option linter.unusedSimpArgs false
set_option linter.unusedVariables false
namespace Go.Proofs.YtcidmkcicagpaaaGreat
open Go.Fw
theorem idxF_nn {X : Type} {p : X → Bool} : ∀ {l : List X}, ¬ idxF p l < 0 → ∃ (k : Nat) (h : k < l.length), idxF p l = k
  | [], h => by simp [idxF] at h
  | x :: l, h => by
    unfold idxF at h ⊢
    by_cases hp : p x = true
    · exact ⟨0, by simp, by simp [hp]⟩
    · by_cases hn : idxF p l < 0
      · simp [hp, hn] at h
      · obtain ⟨k, hk, e⟩ := idxF_nn hn
        exact ⟨k + 1, by simpa using hk, by rw [if_neg hp, if_neg hn, e]; rfl⟩
theorem flatten_set {sz : Nat} {r : List D} (hr : r.length = sz) : ∀ {rows : List (List D)} {k : Nat}, (∀ q ∈ rows, q.length = sz) → k < rows.length → rows.flatten.take (k * sz) ++ r ++ rows.flatten.drop (k * sz + sz) = (rows.set k r).flatten
  | [], _, _, h => by simp at h
  | q :: rows, 0, hl, _ => by
    have h0 := hl q (by simp)
    simp only [Nat.zero_mul, List.take_zero, List.nil_append, Nat.zero_add, List.flatten_cons, List.set_cons_zero]
    rw [← h0, List.drop_left]
  | q :: rows, k + 1, hl, h => by
    have h0 := hl q (by simp)
    have ih := flatten_set hr (rows := rows) (k := k) (fun x hx => hl x (by simp [hx])) (by simpa using h)
    have e1 : (k + 1) * sz = q.length + k * sz := by rw [Nat.add_mul, h0]; omega
    simp only [List.flatten_cons, List.set_cons_succ]
    rw [e1, List.take_append, List.take_of_length_le (by omega), Nat.add_sub_cancel_left, Nat.add_assoc, List.drop_append, List.drop_of_length_le (by omega), List.nil_append, Nat.add_sub_cancel_left, ← ih]
    simp only [List.append_assoc]
theorem Def.dsL_set (ds : List Def) (k : Nat) (d : Def) : Def.dsL (ds.set k d) = (Def.dsL ds).set k d.ds := by simp only [Def.dsL_eq, List.map_set]
theorem Fz.cells {H : Nat → Option Ob} {t gn : Nat} {ob : Ob} {es : List D} (hob : H t = some ob) (hg : ob.gen = gn) (hl : ob.cells.length = es.length) (h : ∀ x ∈ ob.cells.zip es, Fz H x.1 x.2) (hks : ob.keys = none := by rfl) : Fz H (.rf t gn 0) (.cp es) := by
  subst hg
  refine .rf t ob 0 es (fun j => ob.cells.getD j .any) hob hks (fun j e he => ?_) (fun j e he => ?_)
  · have hj := (List.getElem?_eq_some_iff.1 he).1
    rw [Nat.zero_add]; simp [List.getD, List.getElem?_eq_getElem (show j < ob.cells.length by omega)]
  · have hj := (List.getElem?_eq_some_iff.1 he).1
    have hc : ob.cells[j]? = some (ob.cells[j]'(by omega)) := List.getElem?_eq_getElem (by omega)
    simp only [List.getD, hc, Option.getD_some]
    exact h (_, e) (List.mem_iff_getElem?.2 ⟨j, by rw [List.getElem?_zip_eq_some]; exact ⟨hc, he⟩⟩)
theorem Prg.sz_set {das : List Dat} {ds : List Def} {k : Nat} {d : Def} (h : k < ds.length) : (Prg.mk das (ds.set k d)).sz ≤ (Prg.mk das ds).sz + d.sz := by
  simp only [Prg.sz, List.length_set, Def.szS]
  have : ∀ (l : List Def) (k : Nat), ((l.set k d).map Def.sz).sum ≤ (l.map Def.sz).sum + d.sz := by
    intro l
    induction l with
    | nil => intro k; simp
    | cons x l ih =>
      intro k
      cases k with
      | zero => simp only [List.set_cons_zero, List.map_cons, List.sum_cons]; omega
      | succ k => simp only [List.set_cons_succ, List.map_cons, List.sum_cons]; have := ih k; omega
  have := this ds k
  omega
theorem Prg.ok_set {das : List Dat} {ds : List Def} {k : Nat} {d : Def} (h : (Prg.mk das ds).ok) (hd : d.ok) : (Prg.mk das (ds.set k d)).ok := by
  simp only [Prg.ok, List.length_set] at h ⊢
  refine ⟨h.1, h.2.1, h.2.2.1, ?_⟩
  intro x hx
  rcases List.mem_or_eq_of_mem_set hx with hx | hx
  · exact h.2.2.2 x hx
  · rw [hx]; exact hd
open Classical in
noncomputable def repP (p : Prg) (d : Def) : Prg × Int :=
  match p with
  | .mk das ds =>
    if progP (.mk das ds) then
      (if namedF ds (Def.nm d) < 0 then (.mk [] [], 3)
       else if progP (.mk das (ds.set (namedF ds (Def.nm d)).toNat d)) then (.mk das (ds.set (namedF ds (Def.nm d)).toNat d), 0) else (.mk [] [], 1))
    else (.mk [] [], 1)
theorem cloneDef (ds : List Def) (hz : ds ≠ []) (hl : ds.length ≤ 1048576) : SpO Tryz.prog 34 [.sl 12 (Def.dsL ds)] 51 12 (Def.dsL ds) := by
  have hda : (Def.dsL ds).length = ds.length := Def.dsL_len ds
  obtain ⟨d0, dt, rfl⟩ : ∃ a b, ds = a :: b := List.exists_cons_of_ne_nil hz
  have hall : (Def.dsL (d0 :: dt)).flatten.all oneD = true := by
    rw [List.all_eq_true]; intro d hd
    obtain ⟨r, hr, hd⟩ := List.mem_flatten.1 hd
    rw [Def.dsL_eq, List.mem_map] at hr
    obtain ⟨x, _, rfl⟩ := hr
    exact Def.one x d hd
  obtain ⟨r0, hr0⟩ : ∃ r, Def.dsL (d0 :: dt) = d0.ds :: r := ⟨_, rfl⟩
  have hcl := Def.clL (d0 :: dt)
  rw [hr0] at hall hda hcl ⊢
  simp only [List.length_cons] at hda hl
  refine SpO.of_vc [] [.tmp 2] Tryz.func34 rfl (by kernel_rfl) Tryz.ntmps34 rfl (by simp) ?_ ?_
  · intro d hd
    obtain ⟨r, hr, hd⟩ := List.mem_flatten.1 hd
    exact hcl r hr d hd
  simp only [hall, hda, go_sem, ↓reduceIte, reduceCtorEq, Nat.reduceLT, Nat.reduceEqDiff, Nat.reduceBEq, Nat.reduceAdd, Nat.reduceMul, Nat.reduceSub, Nat.reduceLeDiff, List.reduceReplicate]
  refine ⟨⟨by omega, by simp [maxLen]; omega⟩, ?_⟩
  exact ⟨7, ⟨0, 51, 12, (d0.ds :: r0).flatten, none⟩, by simp; omega, rfl, rfl, rfl, rfl, rfl, rfl⟩
noncomputable def repR (p : Prg) (d : Def) : D := .tp [.ag (repP p d).1.ds, I (repP p d).2]
theorem repR0 {das : List Dat} {ds : List Def} {d : Def} (h : ¬ progP (.mk das ds)) : repR (.mk das ds) d = .tp [.ag [.sl 2 [], .sl 12 []], I 1] := by unfold repR repP; simp only [if_neg h]; rfl
theorem repR1 {das : List Dat} {ds : List Def} {d : Def} (h : progP (.mk das ds)) (h1 : namedF ds (Def.nm d) < 0) : repR (.mk das ds) d = .tp [.ag [.sl 2 [], .sl 12 []], I 3] := by unfold repR repP; simp only [if_pos h, if_pos h1]; rfl
theorem repR2 {das : List Dat} {ds : List Def} {d : Def} {k : Nat} (h : progP (.mk das ds)) (h1 : namedF ds (Def.nm d) = (k : Int)) (h2 : ¬ progP (.mk das (ds.set k d))) : repR (.mk das ds) d = .tp [.ag [.sl 2 [], .sl 12 []], I 1] := by
  have e : (namedF ds (Def.nm d)).toNat = k := by rw [h1]; rfl
  have e2 : ¬ namedF ds (Def.nm d) < 0 := by omega
  unfold repR repP
  simp only [if_pos h, if_neg e2]
  rw [e, if_neg h2]; rfl
theorem repR3 {das : List Dat} {ds : List Def} {d : Def} {k : Nat} (h : progP (.mk das ds)) (h1 : namedF ds (Def.nm d) = (k : Int)) (h2 : progP (.mk das (ds.set k d))) : repR (.mk das ds) d = .tp [.ag [.sl 2 (Dat.dsL das), .sl 12 (Def.dsL (ds.set k d))], I 0] := by
  have e : (namedF ds (Def.nm d)).toNat = k := by rw [h1]; rfl
  have e2 : ¬ namedF ds (Def.nm d) < 0 := by omega
  unfold repR repP
  simp only [if_pos h, if_neg e2]
  rw [e, if_pos h2]; rfl
theorem close_err {s : St} {c : Int} (hT : s.T = []) : closeK [] [] (.tp [.ag [.sl 2 [], .sl 12 []], I c]) s (.tp [.ag [.sc (.slice none 0 0), .sc (.slice none 0 0)], .sc (.int .i64 c)]) :=
  ⟨[], [], .tp (.cons (us := []) (.ag (.cons (us := []) (.nil 2) (.cons (us := []) (.nil 12) .nil))) (.cons (us := []) (.one (.sc _)) .nil)), by simp [upT, inls, hT], by simp [inrs]⟩
theorem prg_open {das : List Dat} {ds : List Def} {e : D} {T : List TE} (h : O3 (.ag [.sl 2 (Dat.dsL das), .sl 12 (Def.dsL ds)]) e T) : ∃ a1 n1 c1 F1 a2 n2 c2 F2, e = .ag [.sc (.slice a1 n1 c1), .sc (.slice a2 n2 c2)] ∧ T = [⟨.slice a1 n1 c1, .sl 2 (Dat.dsL das), F1⟩, ⟨.slice a2 n2 c2, .sl 12 (Def.dsL ds), F2⟩] := by
  obtain ⟨es, rfl, ho⟩ := o3_ag h
  rw [ol_sl] at ho
  obtain ⟨a1, n1, c1, F1, es1, T1, rfl, rfl, ho⟩ := ho
  rw [ol_sl] at ho
  obtain ⟨a2, n2, c2, F2, es2, T2, rfl, rfl, ho⟩ := ho
  rw [ol_nil] at ho
  obtain ⟨rfl, rfl⟩ := ho
  exact ⟨a1, n1, c1, F1, a2, n2, c2, F2, rfl, rfl⟩
theorem close_prg {s : St} {das : List Dat} {ds : List Def} {a1 : Option Addr} {n1 c1 : Nat} {F1 : List Nat} {a2 : Option Addr} {n2 c2 : Nat} {F2 : List Nat} {c : Int} (hT : s.T = [⟨.slice a1 n1 c1, .sl 2 (Dat.dsL das), F1⟩, ⟨.slice a2 n2 c2, .sl 12 (Def.dsL ds), F2⟩]) :
    closeK [] [] (.tp [.ag [.sl 2 (Dat.dsL das), .sl 12 (Def.dsL ds)], I c]) s (.tp [.ag [.sc (.slice a1 n1 c1), .sc (.slice a2 n2 c2)], .sc (.int .i64 c)]) :=
  ⟨_, [], .tp (.cons (.ag (.cons (.tr ⟨.slice a1 n1 c1, .sl 2 (Dat.dsL das), F1⟩) (.cons (.tr ⟨.slice a2 n2 c2, .sl 12 (Def.dsL ds), F2⟩) .nil))) (.cons (us := []) (.one (.sc _)) .nil)), by simp [upT, inls, hT], by simp [inrs]⟩
open Classical in
theorem replaceDef (p : Prg) (d : Def) (hs : p.sz + d.sz ≤ 1048576) (ho : p.ok) (hd : d.ok) (r : D) (hr : repR p d = r) : SpG Tryz.prog 10 [.ag p.ds, .ag d.ds] [] [] r := by
  have hvp := validProgram p (by omega) ho
  have hpc := Prg.cl p
  obtain ⟨das, ds⟩ := p
  have ho' := ho
  have hsz' := hs
  simp only [Prg.ok] at ho'
  simp only [Prg.sz] at hs
  have hda : (Def.dsL ds).length = ds.length := Def.dsL_len ds
  have hfd := findDef das ds (Def.nm d) ho'.2.2.1
  have hdc := Def.cl d
  have hd12 := Def.ds_len d
  have hd1 : (d.ds).all oneD = true := by rw [List.all_eq_true]; exact Def.one d
  have hdt : List.take 12 d.ds = d.ds := List.take_of_length_le (by omega)
  have hdh : d.ds.head? = some (S (Def.nm d)) := by cases d; rfl
  simp only [Prg.ds, Dat.sl, Def.sl] at hvp hpc hfd
  refine SpG.of_vc [] [.cell 4 40, .tmp 5] Tryz.func10 rfl (by kernel_rfl) Tryz.ntmps10 rfl (by simp) rfl ?_
  simp only [Prg.ds, Dat.sl, Def.sl, go_sem, ↓reduceIte, reduceCtorEq, Nat.reduceLT, Nat.reduceEqDiff, Nat.reduceBEq, Nat.reduceAdd, Nat.reduceMul, Nat.reduceSub, Nat.reduceLeDiff, List.reduceReplicate]
  refine callK_intro _ hvp (by simpa using hpc) ?_
  by_cases c0 : progP (.mk das ds)
  case neg =>
    rw [repR0 c0] at hr
    subst hr
    simp only [decide_eq_false c0, go_sem, ↓reduceIte, reduceCtorEq, Nat.reduceLT, Nat.reduceEqDiff, Nat.reduceBEq, Nat.reduceAdd, Nat.reduceMul, Nat.reduceSub, Nat.reduceLeDiff, List.reduceReplicate]
    exact close_err rfl
  simp only [decide_eq_true c0, hdh, go_sem, ↓reduceIte, reduceCtorEq, Nat.reduceLT, Nat.reduceEqDiff, Nat.reduceBEq, Nat.reduceAdd, Nat.reduceMul, Nat.reduceSub, Nat.reduceLeDiff, List.reduceReplicate]
  refine callK_intro _ hfd (by simpa using hpc) ?_
  simp only [go_sem, ↓reduceIte, reduceCtorEq, Nat.reduceLT, Nat.reduceEqDiff, Nat.reduceBEq, Nat.reduceAdd, Nat.reduceMul, Nat.reduceSub, Nat.reduceLeDiff, List.reduceReplicate]
  by_cases c1 : namedF ds (Def.nm d) < 0
  · rw [repR1 c0 c1] at hr
    subst hr
    simp only [decide_eq_true c1, go_sem, ↓reduceIte, reduceCtorEq, Nat.reduceLT, Nat.reduceEqDiff, Nat.reduceBEq, Nat.reduceAdd, Nat.reduceMul, Nat.reduceSub, Nat.reduceLeDiff, List.reduceReplicate]
    exact close_err rfl
  obtain ⟨k, hk, ek⟩ := idxF_nn c1
  have ek : namedF ds (Def.nm d) = (k : Int) := ek
  have ck : decide ((k : Int) < 0) = false := by simp
  have hrows := Def.rows_len ds
  have hfl := flatten_len hrows
  have hset : (Def.dsL ds).flatten.take (k * 12) ++ d.ds ++ (Def.dsL ds).flatten.drop (k * 12 + 12) = (Def.dsL (ds.set k d)).flatten := by rw [flatten_set hd12 hrows (by omega), Def.dsL_set]
  have hkl : k * 12 + 12 ≤ (Def.dsL ds).flatten.length := by rw [hfl, hda]; omega
  simp only [ek, ck, hdt, hd1, hd12, go_sem, ↓reduceIte, reduceCtorEq, Nat.reduceLT, Nat.reduceEqDiff, Nat.reduceBEq, Nat.reduceAdd, Nat.reduceMul, Nat.reduceSub, Nat.reduceLeDiff, List.reduceReplicate]
  refine callK_obj 51 12 (Def.dsL ds) (cloneDef ds (by intro e; rw [e] at hk; simp at hk) (by omega)) (by simp; exact Def.clL _) ?_
  have hki : ((k : Int) < (ds.length : Int)) = True := eq_true (by omega)
  simp only [ek, ck, hdt, hd1, hd12, hda, hki, go_sem, ↓reduceIte, reduceCtorEq, Nat.reduceLT, Nat.reduceEqDiff, Nat.reduceBEq, Nat.reduceAdd, Nat.reduceMul, Nat.reduceSub, Nat.reduceLeDiff, List.reduceReplicate]
  refine ⟨hkl, ?_⟩
  rw [hset]
  have hvq := validProgram (.mk das (ds.set k d)) (by have := Prg.sz_set (das := das) (d := d) hk; omega) (Prg.ok_set ho hd)
  have hcq := copyProgram (.mk das (ds.set k d)) (by have := Prg.sz_set (das := das) (d := d) hk; omega)
  simp only [Prg.ds, Dat.sl, Def.sl] at hvq hcq
  have hfz : ∀ H : Nat → Option Ob, H 22 = some ⟨0, 51, 12, (Def.dsL (ds.set k d)).flatten, none⟩ → Fz H (.ag [.sl 2 (Dat.dsL das), .ms 22 0 ds.length]) (.ag [.sl 2 (Dat.dsL das), .sl 12 (Def.dsL (ds.set k d))]) := fun H h =>
    Fz.ag2 (by simp only [List.zip_cons_cons, List.zip_nil_right, List.forall_mem_cons]; exact ⟨.cl _ (Dat.cl_sl das), Fz.rows h rfl rfl (by decide) (by rw [Def.dsL_len]; simp) (Def.rows_len _) rfl (Def.clL _), by simp⟩) rfl
  refine callK_frz [.ag [.sl 2 (Dat.dsL das), .sl 12 (Def.dsL (ds.set k d))]] _ hvq rfl (by simp only [List.nil_append, List.append_nil, List.zip_cons_cons, List.zip_nil_right, List.forall_mem_cons]; exact ⟨hfz _ (by simp [upd]), by simp⟩) rfl ?_
  by_cases c2 : progP (.mk das (ds.set k d))
  case neg =>
    rw [repR2 c0 ek c2] at hr
    subst hr
    simp only [decide_eq_false c2, go_sem, ↓reduceIte, reduceCtorEq, Nat.reduceLT, Nat.reduceEqDiff, Nat.reduceBEq, Nat.reduceAdd, Nat.reduceMul, Nat.reduceSub, Nat.reduceLeDiff, List.reduceReplicate]
    exact close_err rfl
  rw [repR3 c0 ek c2] at hr
  subst hr
  simp only [decide_eq_true c2, go_sem, ↓reduceIte, reduceCtorEq, Nat.reduceLT, Nat.reduceEqDiff, Nat.reduceBEq, Nat.reduceAdd, Nat.reduceMul, Nat.reduceSub, Nat.reduceLeDiff, List.reduceReplicate]
  refine callK_read [.ag [.sl 2 (Dat.dsL das), .sl 12 (Def.dsL (ds.set k d))]] _ hcq rfl (by simp only [List.nil_append, List.append_nil, List.zip_cons_cons, List.zip_nil_right, List.forall_mem_cons]; exact ⟨.fz (hfz _ (by simp [upd])), by simp⟩) ?_
  intro e T hO
  obtain ⟨a1, n1, c1', F1, a2, n2, c2', F2, rfl, rfl⟩ := prg_open hO
  simp only [go_sem, ↓reduceIte, reduceCtorEq, Nat.reduceLT, Nat.reduceEqDiff, Nat.reduceBEq, Nat.reduceAdd, Nat.reduceMul, Nat.reduceSub, Nat.reduceLeDiff, List.reduceReplicate]
  exact close_prg rfl
end Go.Proofs.YtcidmkcicagpaaaGreat
