/-
  AffectedDefs of the reference. No condition.
-/
import Derived.Test.YtcidmkcicagpaaaGreatP23
import Derived.Test.YtcidmkcicagpaaaGreatP24
set_option maxRecDepth 100000
set_option linter.unusedSimpArgs false
set_option linter.unusedVariables false
namespace Go.Proofs.YtcidmkcicagpaaaGreat
open Go.Fw
open Nat (reduceLT reduceEqDiff reduceAdd reduceMul reduceSub reduceLeDiff)
open List (reduceReplicate)
/-- a list of numbers: one that nobody writes any more, or the call's own -/
def LZ (t : Nat) (H : Nat → Option Ob) (l : List Int) (x : D) : Prop := x = .sl 1 (Z l) ∨ ∃ gn, x = .ms t gn l.length ∧ H t = some ⟨gn, 2, 1, (Z l).flatten, none⟩
theorem LZ.fz {t : Nat} {H : Nat → Option Ob} {l : List Int} {x : D} (h : LZ t H l x) : Fz H x (.sl 1 (Z l)) := by
  rcases h with rfl | ⟨gn, rfl, hH⟩
  · exact .cl _ (cl_Z l)
  · exact Fz.rows hH rfl rfl (Nat.lt_add_one 0) (by simp) (Z_len l) rfl (Z_cl l)
theorem LZ.fzL {t : Nat} {H : Nat → Option Ob} {l : List Int} {x : D} (h : LZ t H l x) : Fz (onL [t] H) x (.sl 1 (Z l)) := by
  refine LZ.fz (t := t) ?_
  rcases h with rfl | ⟨gn, rfl, hH⟩
  · exact .inl rfl
  · exact .inr ⟨gn, rfl, by simpa [onL] using hH⟩
theorem LZ.congr {t : Nat} {H H' : Nat → Option Ob} {l : List Int} {x : D} (h : LZ t H l x) (k : H' t = H t) : LZ t H' l x := by
  rcases h with rfl | ⟨gn, rfl, hH⟩
  · exact .inl rfl
  · exact .inr ⟨gn, rfl, k.trans hH⟩
theorem foldl_asc : ∀ (l out : List Int), Asc out → Asc (l.foldl putF out)
  | [], out, h => h
  | x :: l, out, h => foldl_asc l _ (asc_putF h)
theorem mem_foldl {a : Int} : ∀ (l out : List Int), a ∈ l.foldl putF out ↔ a ∈ out ∨ a ∈ l
  | [], out => by simp
  | x :: l, out => by
    rw [List.foldl_cons, mem_foldl l, mem_putF, List.mem_cons]
    constructor
    · rintro ((h | h) | h)
      · exact .inl h
      · exact .inr (.inl h)
      · exact .inr (.inr h)
    · rintro (h | h | h)
      · exact .inl (.inl h)
      · exact .inl (.inr h)
      · exact .inr h
theorem foldl_len : ∀ (l out : List Int), (l.foldl putF out).length ≤ out.length + l.length
  | [], out => by simp
  | x :: l, out => by
    have := foldl_len l (putF out x)
    have := (len_putF_le (x := x) out).2
    simp only [List.foldl_cons, List.length_cons]; omega
theorem use_fold {ds : List Def} (h : Named ds) (k : Nat) (hk : k < ds.length) : (numsF ds ds[k]).foldl putF [] = useF ds k := by
  rw [useF_at k hk]
  exact (srtF_asc (nums_nodup h (List.getElem_mem hk)) (foldl_asc _ _ (by simp [Asc])) fun a => by rw [mem_foldl]; simp).symm
theorem l03Used (das : List Dat) (ds : List Def) (hn : Named ds) (k : Nat) (hk : k < ds.length) (hg : gdM (Def.bd ds[k]) = true) (hs : (Def.bd ds[k]).sz ≤ 1048576) :
    Sp Tryz.prog 88 [.cp [Dat.sl das, Def.sl ds], I k] (.sl 1 (Z (useF ds k))) := by
  have hdl : (Def.dsL ds).length = ds.length := Def.dsL_len ds
  have hn8 := hn.len
  have hfr := l03Free0 (Def.bd ds[k]) hg hs
  have hul := nums_len hn (List.getElem_mem hk)
  have g0 := Def.dsL_get ds k hk
  rw [← use_fold hn k hk]
  obtain ⟨d, hdd⟩ : ∃ d, d = ds[k] := ⟨_, rfl⟩
  rw [← hdd] at g0 hfr hul ⊢
  have hnf : ∀ x, Sp Tryz.prog 26 [Def.sl ds, S x] (I (namedF ds x)) := fun x => l03Named ds x (by unfold maxLen; omega)
  simp only [Def.sl] at hnf
  obtain ⟨fl, hflx⟩ : ∃ fl, fl = freeF (Def.bd d) [] [] := ⟨_, rfl⟩
  have hnu : numsF ds d = fl.map (namedF ds) := by rw [hflx]; rfl
  rw [hnu] at hul ⊢
  rw [← hflx] at hfr
  have hfl8 : fl.length ≤ 8 := by simpa using hul
  obtain ⟨dn, ⟨tk, tn, tks⟩, ⟨bk, bv, bn, ⟨uk, un, uks⟩, ns, ks⟩⟩ := d
  simp only [Def.bd] at hfr
  simp only [Def.ds, Term.ds, Typ.ds, strs, List.cons_append, List.nil_append] at g0 hfr
  have hkk : ((k : Int) < (ds.length : Int)) = True := eq_true (by omega)
  refine Sp.of_vc [] [.tmp 4] Tryz.func88 rfl (by kernel_rfl) Tryz.ntmps88 rfl (by simp) ?_
  simp only [Dat.sl, Def.sl, g0, hdl, hkk, Int.toNat_natCast, go_sem, ↓reduceIte, reduceCtorEq, reduceLT, reduceEqDiff, Nat.reduceBEq, reduceAdd, reduceMul, reduceSub, reduceLeDiff, reduceReplicate]
  refine callK_intro _ hfr (by simp only [List.nil_append, List.append_nil, List.forall_mem_cons]; exact ⟨Cl.cp' (by simp; exact ⟨Typ.clL _, Term.clL _⟩), cl_sc _, cl_sc _, by simp⟩) ?_
  simp only [R_len, go_sem, ↓reduceIte, reduceCtorEq, reduceLT, reduceEqDiff, Nat.reduceBEq, reduceAdd, reduceMul, reduceSub, reduceLeDiff, reduceReplicate]
  refine loop_count 7 fl.length (fun j => Fw.InvE 35 [(0, .cp [.sl 2 (Dat.dsL das), .sl 12 (Def.dsL ds)]), (6, .sl 1 (R fl))] fun env H n T => LZ 8 H (((fl.take j).map (namedF ds)).foldl putF []) (env 5)) rfl ⟨rfl, by simp [envOf, setE], by simp [setE]; exact .inr ⟨_, rfl, by simp [upd]⟩⟩ ?_
  rintro j ⟨env, H, n', nt, T⟩ hj h5 ⟨rfl, hfs, hx⟩
  simp only [List.forall_mem_cons] at h5 hfs hx
  obtain ⟨e0, e6, -⟩ := hfs
  obtain ⟨y, e5⟩ : ∃ y, env 5 = y := ⟨_, rfl⟩
  rw [e5] at hx
  simp only [h5, e6, R_len, go_sem, ↓reduceIte, reduceCtorEq, reduceLT, reduceEqDiff, Nat.reduceBEq, reduceAdd, reduceMul, reduceSub, reduceLeDiff, reduceReplicate]
  refine condK_split (fun h => ?_) (fun h => ?_)
  · have hlt : j < fl.length := by simpa using h
    have g1 : (R fl)[j]? = some [S fl[j]] := by simp [R, hlt]
    have ht : ((fl.take (j + 1)).map (namedF ds)).foldl putF [] = putF (((fl.take j).map (namedF ds)).foldl putF []) (namedF ds fl[j]) := by rw [List.take_succ_eq_append_getElem hlt, List.map_append, List.foldl_append]; rfl
    have hll := foldl_len ((fl.take j).map (namedF ds)) []
    obtain ⟨cur, hcur⟩ : ∃ cur, cur = ((fl.take j).map (namedF ds)).foldl putF [] := ⟨_, rfl⟩
    rw [← hcur] at ht hll hx
    have hc8 : cur.length ≤ 8 := by simp at hll; omega
    simp only [h, go_sem, ↓reduceIte, reduceCtorEq, reduceLT, reduceEqDiff, Nat.reduceBEq, reduceAdd, reduceMul, reduceSub, reduceLeDiff, reduceReplicate]
    refine drawK_chain [0, 1, 2, 3, 4, 5, 6, 7, 8, 9, 10, 11] [] [27, 31] mixed (by kernel_rfl) ?_
    simp only [h5, e0, e5, e6, g1, R_len, go_sem, ↓reduceIte, reduceCtorEq, reduceLT, reduceEqDiff, Nat.reduceBEq, reduceAdd, reduceMul, reduceSub, reduceLeDiff, reduceReplicate]
    refine callK_intro _ (hnf fl[j]) (by simp only [List.nil_append, List.append_nil, List.forall_mem_cons]; exact ⟨Cl.sl' (Def.clL _), cl_sc _, by simp⟩) ?_
    simp only [go_sem, ↓reduceIte, reduceCtorEq, reduceLT, reduceEqDiff, Nat.reduceBEq, reduceAdd, reduceMul, reduceSub, reduceLeDiff, reduceReplicate]
    refine callK_give [8] [.sl 1 (Z cur), I (namedF ds fl[j])] (.sl 1 (Z (putF cur (namedF ds fl[j])))) (l00Put cur _ (by omega)) rfl (by simp only [List.nil_append, List.append_nil, List.zip_cons_cons, List.zip_nil_right, List.forall_mem_cons]; exact ⟨hx.fzL, .cl _ (cl_sc _), by simp⟩) (cl_Z _) ?_
    simp only [h5, go_sem, ↓reduceIte, reduceCtorEq, reduceLT, reduceEqDiff, Nat.reduceBEq, reduceAdd, reduceMul, reduceSub, reduceLeDiff, reduceReplicate]
    refine nextC_mk (by simp [setE, wrap_succ j (by omega)]) hlt ⟨rfl, by simp [setE, e0, e6], ?_⟩
    rw [ht]
    exact .inl (by simp [setE])
  · have hj' : j = fl.length := by simp at h; omega
    subst hj'
    rw [List.take_length] at hx
    simp only [h, e5, go_sem, ↓reduceIte, reduceCtorEq, reduceLT, reduceEqDiff, Nat.reduceBEq, reduceAdd, reduceMul, reduceSub, reduceLeDiff, reduceReplicate]
    exact hx.fz
theorem usedDefs0 (das : List Dat) (ds : List Def) (hs : (Prg.mk das ds).sz ≤ 1048576) (ho : (Prg.mk das ds).ok) (hc : codeN (.mk das ds) ≠ 0) (k : Nat) : Sp Tryz.prog 46 [.ag [Dat.sl das, Def.sl ds], I k] (.sl 1 (Z [])) := by
  have hcn := l03Names (.mk das ds) hs ho
  simp only [Prg.ds, Dat.sl, Def.sl] at hcn
  have h1 : (!(codeN (.mk das ds) == 0)) = true := by simp [hc]
  have hcl : Cl (.cp [D.sl 2 (Dat.dsL das), D.sl 12 (Def.dsL ds)]) := Cl.cp' (by simp; exact ⟨Dat.clL _, Def.clL _⟩)
  refine Sp.of_vc [] [.tmp 4] Tryz.func46 rfl (by kernel_rfl) Tryz.ntmps46 rfl (by simp) ?_
  simp only [Dat.sl, Def.sl, go_sem, ↓reduceIte, reduceCtorEq, reduceLT, reduceEqDiff, Nat.reduceBEq, reduceAdd, reduceMul, reduceSub, reduceLeDiff, reduceReplicate]
  refine callK_intro _ hcn (by simp only [List.nil_append, List.append_nil, List.forall_mem_cons]; exact ⟨hcl, by simp⟩) ?_
  simp only [bne, h1, go_sem, ↓reduceIte, reduceCtorEq, reduceLT, reduceEqDiff, Nat.reduceBEq, reduceAdd, reduceMul, reduceSub, reduceLeDiff, reduceReplicate]
  exact LZ.fz (t := 16) (l := []) (.inr ⟨_, rfl, by simp [upd]⟩)
theorem usedDefsS (das : List Dat) (ds : List Def) (hs : (Prg.mk das ds).sz ≤ 1048576) (ho : (Prg.mk das ds).ok) (hc : codeN (.mk das ds) = 0) (k : Nat) (hk : k < ds.length) :
    Sp Tryz.prog 46 [.ag [Dat.sl das, Def.sl ds], I k] (.sl 1 (Z (useF ds k))) := by
  have hcn := l03Names (.mk das ds) hs ho
  obtain ⟨c0, hn⟩ := code_named hc
  have hn8 := hn.len
  have hdl : (Def.dsL ds).length = ds.length := Def.dsL_len ds
  rw [hc] at hcn
  have hm : ds[k] ∈ ds := List.getElem_mem hk
  have hus : Sp Tryz.prog 88 [.cp [Dat.sl das, Def.sl ds], I k] (.sl 1 (Z (useF ds k))) := by
    simp only [Prg.sz] at hs
    have h1 := Def.sz_mem hm
    have h2 := sz_bd ds[k]
    exact l03Used das ds hn k hk (prog_bd c0 _ hm).1 (by omega)
  simp only [Prg.ds, Dat.sl, Def.sl] at hcn hus
  have hcl : Cl (.cp [D.sl 2 (Dat.dsL das), D.sl 12 (Def.dsL ds)]) := Cl.cp' (by simp; exact ⟨Dat.clL _, Def.clL _⟩)
  have h00 : (!((0 : Int) == 0)) = false := rfl
  have hw : IntKind.i64.wrap ((ds.length : Int) - 1) = (ds.length : Int) - 1 := Go.IntWalk.i64_in _ (by omega)
  have hin : inR (k : Int) 0 ((ds.length : Int) - 1) = true := by simp [inR]; omega
  have hi := l00In (k : Int) 0 ((ds.length : Int) - 1)
  rw [hin] at hi
  refine Sp.of_vc [] [.tmp 4] Tryz.func46 rfl (by kernel_rfl) Tryz.ntmps46 rfl (by simp) ?_
  simp only [Dat.sl, Def.sl, go_sem, ↓reduceIte, reduceCtorEq, reduceLT, reduceEqDiff, Nat.reduceBEq, reduceAdd, reduceMul, reduceSub, reduceLeDiff, reduceReplicate]
  refine callK_intro _ hcn (by simp only [List.nil_append, List.append_nil, List.forall_mem_cons]; exact ⟨hcl, by simp⟩) ?_
  simp only [bne, h00, hdl, hw, go_sem, ↓reduceIte, reduceCtorEq, reduceLT, reduceEqDiff, Nat.reduceBEq, reduceAdd, reduceMul, reduceSub, reduceLeDiff, reduceReplicate]
  refine callK_intro _ hi (by simp only [List.nil_append, List.append_nil, List.forall_mem_cons]; exact ⟨cl_sc _, cl_sc _, cl_sc _, by simp⟩) ?_
  simp only [go_sem, ↓reduceIte, reduceCtorEq, reduceLT, reduceEqDiff, Nat.reduceBEq, reduceAdd, reduceMul, reduceSub, reduceLeDiff, reduceReplicate]
  refine callK_intro _ hus (by simp only [List.nil_append, List.append_nil, List.forall_mem_cons]; exact ⟨hcl, cl_sc _, by simp⟩) ?_
  simp only [go_sem, ↓reduceIte, reduceCtorEq, reduceLT, reduceEqDiff, Nat.reduceBEq, reduceAdd, reduceMul, reduceSub, reduceLeDiff, reduceReplicate]
  exact .cl _ (cl_Z _)
theorem rch_none {i a : Int} (h : Rch (fun _ => []) i a) : i = a := by
  cases h with
  | refl => rfl
  | step h _ => simp at h
theorem toL_none {a n : Nat} (h : a < n) : toL (fun _ => []) n a = [(a : Int)] := by
  refine asc_ext (asc_toL _) (by simp [Asc]) fun i => ?_
  rw [mem_toL, List.mem_singleton]
  constructor
  · exact fun h => rch_none h.2
  · rintro rfl; exact ⟨by omega, .refl _⟩
/-- rising, and below n -/
def GoodN (n : Nat) (o : List Int) : Prop := Asc o ∧ ∀ a ∈ o, 0 ≤ a ∧ a < (n : Int)
theorem GoodN.len {n : Nat} {o : List Int} (h : GoodN n o) : o.length ≤ n := nodup_len (asc_nodup h.1) h.2
theorem GoodN.put {n i : Nat} {o : List Int} (h : GoodN n o) (hi : i < n) : GoodN n (putF o i) := ⟨asc_putF h.1, fun a ha => by
  rcases mem_putF.1 ha with ha | rfl
  · exact h.2 a ha
  · omega⟩
open Classical in
theorem specAffectedDefs (p : Prg) (hs : p.sz ≤ 1048576) (ho : p.ok) (n : ByteArray) : Sp Tryz.prog 16 [.ag p.ds, S n] (.tp [.sl 1 (Z (affR p n).1), I (affR p n).2]) := by
  have hvp := l03Program p hs ho
  obtain ⟨das, ds⟩ := p
  have hdl : (Def.dsL ds).length = ds.length := Def.dsL_len ds
  have hcl : Cl (.cp [D.sl 2 (Dat.dsL das), D.sl 12 (Def.dsL ds)]) := Cl.cp' (by simp; exact ⟨Dat.clL _, Def.clL _⟩)
  have hcla : Cl (.ag [D.sl 2 (Dat.dsL das), D.sl 12 (Def.dsL ds)]) := Cl.ag' (by simp; exact ⟨Dat.clL _, Def.clL _⟩)
  simp only [Prg.ds, Dat.sl, Def.sl] at hvp
  by_cases c0 : progP (.mk das ds)
  case neg =>
    have hr : affR (.mk das ds) n = ([], 1) := by rw [affR, if_neg c0]
    rw [hr]
    simp only [decide_eq_false c0] at hvp
    refine Sp.of_vc [] [.tmp 4, .tmp 5] Tryz.func16 rfl (by kernel_rfl) Tryz.ntmps16 rfl (by simp) ?_
    simp only [Prg.ds, Dat.sl, Def.sl, go_sem, ↓reduceIte, reduceCtorEq, reduceLT, reduceEqDiff, Nat.reduceBEq, reduceAdd, reduceMul, reduceSub, reduceLeDiff, reduceReplicate]
    refine callK_intro _ hvp (by simp only [List.nil_append, List.append_nil, List.forall_mem_cons]; exact ⟨hcl, by simp⟩) ?_
    simp only [go_sem, ↓reduceIte, reduceCtorEq, reduceLT, reduceEqDiff, Nat.reduceBEq, reduceAdd, reduceMul, reduceSub, reduceLeDiff, reduceReplicate]
    exact Fz.tp2 (LZ.fz (t := 14) (l := []) (.inr ⟨_, rfl, by simp [upd]⟩)) (.cl _ (cl_sc _))
  have hn8 := c0.2.2.1
  have hfd := l03Named ds n (by unfold maxLen; omega)
  simp only [decide_eq_true c0] at hvp
  simp only [Def.sl] at hfd
  by_cases c1 : namedF ds n < 0
  · have hr : affR (.mk das ds) n = ([], 3) := by rw [affR, if_pos c0, if_pos c1]
    rw [hr]
    refine Sp.of_vc [] [.tmp 4, .tmp 5] Tryz.func16 rfl (by kernel_rfl) Tryz.ntmps16 rfl (by simp) ?_
    simp only [Prg.ds, Dat.sl, Def.sl, go_sem, ↓reduceIte, reduceCtorEq, reduceLT, reduceEqDiff, Nat.reduceBEq, reduceAdd, reduceMul, reduceSub, reduceLeDiff, reduceReplicate]
    refine callK_intro _ hvp (by simp only [List.nil_append, List.append_nil, List.forall_mem_cons]; exact ⟨hcl, by simp⟩) ?_
    simp only [go_sem, ↓reduceIte, reduceCtorEq, reduceLT, reduceEqDiff, Nat.reduceBEq, reduceAdd, reduceMul, reduceSub, reduceLeDiff, reduceReplicate]
    refine callK_intro _ hfd (by simp only [List.nil_append, List.append_nil, List.forall_mem_cons]; exact ⟨Cl.sl' (Def.clL _), cl_sc _, by simp⟩) ?_
    simp only [decide_eq_true c1, go_sem, ↓reduceIte, reduceCtorEq, reduceLT, reduceEqDiff, Nat.reduceBEq, reduceAdd, reduceMul, reduceSub, reduceLeDiff, reduceReplicate]
    exact Fz.tp2 (LZ.fz (t := 21) (l := []) (.inr ⟨_, rfl, by simp [upd]⟩)) (.cl _ (cl_sc _))
  obtain ⟨a, ha, ea, -⟩ := namedF_at (show 0 ≤ namedF ds n by omega)
  have hr : affR (.mk das ds) n = (affL (.mk das ds) a, 0) := by rw [affR, if_pos c0, if_neg c1, ea]; rfl
  rw [hr]
  rw [ea] at hfd
  obtain ⟨u, hu, hu2, hu3⟩ : ∃ u : Int → List Int, (∀ k : Nat, k < ds.length → Sp Tryz.prog 46 [.ag [.sl 2 (Dat.dsL das), .sl 12 (Def.dsL ds)], I k] (.sl 1 (Z (u k)))) ∧ (∀ k, (u k).length ≤ 8) ∧ affL (.mk das ds) a = roundsR u ds.length ds.length [(a : Int)] := by
    by_cases c2 : codeN (.mk das ds) = 0
    · obtain ⟨_, hn⟩ := code_named c2
      exact ⟨useF ds, fun k hk => by simpa only [Dat.sl, Def.sl] using usedDefsS das ds hs ho c2 k hk, useF_len hn, by rw [affL, if_pos c2, rounds_eq (by omega) (by omega) (useF_rng hn)]⟩
    · exact ⟨fun _ => [], fun k hk => usedDefs0 das ds hs ho c2 k, fun k => by simp, by rw [affL, if_neg c2, rounds_eq (by omega) (by omega) (by simp), toL_none ha]⟩
  rw [hu3]
  have ck : decide ((a : Int) < 0) = false := by simp
  refine Sp.of_vc [] [.tmp 4, .tmp 5] Tryz.func16 rfl (by kernel_rfl) Tryz.ntmps16 rfl (by simp) ?_
  simp only [Prg.ds, Dat.sl, Def.sl, go_sem, ↓reduceIte, reduceCtorEq, reduceLT, reduceEqDiff, Nat.reduceBEq, reduceAdd, reduceMul, reduceSub, reduceLeDiff, reduceReplicate]
  refine callK_intro _ hvp (by simp only [List.nil_append, List.append_nil, List.forall_mem_cons]; exact ⟨hcl, by simp⟩) ?_
  simp only [go_sem, ↓reduceIte, reduceCtorEq, reduceLT, reduceEqDiff, Nat.reduceBEq, reduceAdd, reduceMul, reduceSub, reduceLeDiff, reduceReplicate]
  refine callK_intro _ hfd (by simp only [List.nil_append, List.append_nil, List.forall_mem_cons]; exact ⟨Cl.sl' (Def.clL _), cl_sc _, by simp⟩) ?_
  simp only [ck, hdl, go_sem, ↓reduceIte, reduceCtorEq, reduceLT, reduceEqDiff, Nat.reduceBEq, reduceAdd, reduceMul, reduceSub, reduceLeDiff, reduceReplicate]
  refine loop_count 8 ds.length (fun r => Fw.InvE 57 [(2, .cp [.sl 2 (Dat.dsL das), .sl 12 (Def.dsL ds)])] fun env H n T => LZ 23 H (roundsR u ds.length r [(a : Int)]) (env 7) ∧ GoodN ds.length (roundsR u ds.length r [(a : Int)])) rfl ⟨rfl, by simp [setE], ⟨by simp [setE]; exact .inr ⟨_, rfl, by simp [upd, roundsR]⟩, ⟨by simp [roundsR, Asc], by simp [roundsR]; omega⟩⟩⟩ ?_
  rintro r ⟨env, H, n', nt, T⟩ hj h8 ⟨rfl, hfs, ⟨hx, hG⟩⟩
  simp only [List.forall_mem_cons] at h8 hfs hx
  obtain ⟨e2, -⟩ := hfs
  obtain ⟨o1, ho1⟩ : ∃ o1, o1 = roundsR u ds.length r [(a : Int)] := ⟨_, rfl⟩
  have hrs : roundsR u ds.length (r + 1) [(a : Int)] = roundR u ds.length o1 := by rw [ho1]; rfl
  rw [← ho1] at hx hG
  simp only [h8, e2, hdl, go_sem, ↓reduceIte, reduceCtorEq, reduceLT, reduceEqDiff, Nat.reduceBEq, reduceAdd, reduceMul, reduceSub, reduceLeDiff, reduceReplicate]
  refine condK_split (fun h => ?_) (fun h => ?_)
  · have rlt : r < ds.length := by simpa using h
    simp only [h, e2, go_sem, ↓reduceIte, reduceCtorEq, reduceLT, reduceEqDiff, Nat.reduceBEq, reduceAdd, reduceMul, reduceSub, reduceLeDiff, reduceReplicate]
    refine loop_count 9 ds.length (fun i => Fw.InvE 57 [(2, .cp [.sl 2 (Dat.dsL das), .sl 12 (Def.dsL ds)]), (8, I r)] fun env H n T => LZ 23 H (roundR u i o1) (env 7) ∧ GoodN ds.length (roundR u i o1)) rfl ⟨rfl, by simp [setE, e2, h8], ⟨by simpa [setE, roundR] using hx, by simpa [roundR] using hG⟩⟩ ?_
    clear hx hG
    rintro i ⟨env, H, n', nt, T⟩ hj h9 ⟨rfl, hfs, ⟨hx, hG⟩⟩
    simp only [List.forall_mem_cons] at h9 hfs hx
    obtain ⟨e2, e8, -⟩ := hfs
    obtain ⟨o2, ho2⟩ : ∃ o2, o2 = roundR u i o1 := ⟨_, rfl⟩
    have hrs2 : roundR u (i + 1) o1 = (u i).foldl (fun o d => if d ∈ o then putF o i else o) o2 := by rw [ho2]; rfl
    rw [← ho2] at hx hG
    simp only [h9, e2, hdl, go_sem, ↓reduceIte, reduceCtorEq, reduceLT, reduceEqDiff, Nat.reduceBEq, reduceAdd, reduceMul, reduceSub, reduceLeDiff, reduceReplicate]
    refine condK_split (fun h => ?_) (fun h => ?_)
    · have ilt : i < ds.length := by simpa using h
      have hui := hu i ilt
      have hul := hu2 i
      obtain ⟨us, hus⟩ : ∃ us, us = u i := ⟨_, rfl⟩
      rw [← hus] at hui hul hrs2
      simp only [h, h9, e2, go_sem, ↓reduceIte, reduceCtorEq, reduceLT, reduceEqDiff, Nat.reduceBEq, reduceAdd, reduceMul, reduceSub, reduceLeDiff, reduceReplicate]
      refine callK_intro _ hui (by simp only [List.nil_append, List.append_nil, List.forall_mem_cons]; exact ⟨hcla, cl_sc _, by simp⟩) ?_
      simp only [go_sem, ↓reduceIte, reduceCtorEq, reduceLT, reduceEqDiff, Nat.reduceBEq, reduceAdd, reduceMul, reduceSub, reduceLeDiff, reduceReplicate]
      refine loop_count 11 us.length (fun m => Fw.InvE 57 [(2, .cp [.sl 2 (Dat.dsL das), .sl 12 (Def.dsL ds)]), (8, I r), (9, I i), (10, .sl 1 (Z us))] fun env H n T => LZ 23 H ((us.take m).foldl (fun o d => if d ∈ o then putF o i else o) o2) (env 7) ∧ GoodN ds.length ((us.take m).foldl (fun o d => if d ∈ o then putF o i else o) o2)) rfl
        ⟨rfl, by simp [setE, e2, e8, h9], ⟨by simpa [setE] using hx, by simpa using hG⟩⟩ ?_
      clear hx hG
      rintro m ⟨env, H, n', nt, T⟩ hj h11 ⟨rfl, hfs, ⟨hx, hG⟩⟩
      simp only [List.forall_mem_cons] at h11 hfs hx
      obtain ⟨e2, e8, e9, e10, -⟩ := hfs
      obtain ⟨o3, ho3⟩ : ∃ o3, o3 = (us.take m).foldl (fun o d => if d ∈ o then putF o i else o) o2 := ⟨_, rfl⟩
      rw [← ho3] at hx hG
      obtain ⟨y, e7⟩ : ∃ y, env 7 = y := ⟨_, rfl⟩
      rw [e7] at hx
      have hl3 := hG.len
      simp only [h11, e10, Z_l, go_sem, ↓reduceIte, reduceCtorEq, reduceLT, reduceEqDiff, Nat.reduceBEq, reduceAdd, reduceMul, reduceSub, reduceLeDiff, reduceReplicate]
      refine condK_split (fun h => ?_) (fun h => ?_)
      · have mlt : m < us.length := by simpa using h
        have g1 := Z_get us m mlt
        have hst : (us.take (m + 1)).foldl (fun o d => if d ∈ o then putF o i else o) o2 = if us[m] ∈ o3 then putF o3 i else o3 := by rw [List.take_succ_eq_append_getElem mlt, List.foldl_append, ← ho3]; rfl
        simp only [h, h11, e7, e10, g1, Z_l, go_sem, ↓reduceIte, reduceCtorEq, reduceLT, reduceEqDiff, Nat.reduceBEq, reduceAdd, reduceMul, reduceSub, reduceLeDiff, reduceReplicate]
        refine callK_frz [.sl 1 (Z o3), I us[m]] _ (l00Has o3 us[m] (by omega)) rfl (by simp only [List.nil_append, List.append_nil, List.zip_cons_cons, List.zip_nil_right, List.forall_mem_cons]; exact ⟨hx.fz, .cl _ (cl_sc _), by simp⟩) rfl ?_
        by_cases q : us[m] ∈ o3
        · rw [if_pos q] at hst
          simp only [decide_eq_true q, e7, e9, go_sem, ↓reduceIte, reduceCtorEq, reduceLT, reduceEqDiff, Nat.reduceBEq, reduceAdd, reduceMul, reduceSub, reduceLeDiff, reduceReplicate]
          refine callK_give [23] [.sl 1 (Z o3), I i] (.sl 1 (Z (putF o3 i))) (l00Put o3 _ (by omega)) rfl (by simp only [List.nil_append, List.append_nil, List.zip_cons_cons, List.zip_nil_right, List.forall_mem_cons]; exact ⟨hx.fzL, .cl _ (cl_sc _), by simp⟩) (cl_Z _) ?_
          simp only [h11, go_sem, ↓reduceIte, reduceCtorEq, reduceLT, reduceEqDiff, Nat.reduceBEq, reduceAdd, reduceMul, reduceSub, reduceLeDiff, reduceReplicate]
          refine nextC_mk (by simp [setE, wrap_succ m (by omega)]) mlt ⟨rfl, by simp [setE, e2, e8, e9, e10], ⟨?_, ?_⟩⟩
          · rw [hst]; exact .inl (by simp [setE])
          · rw [hst]; exact hG.put ilt
        · rw [if_neg q] at hst
          simp only [decide_eq_false q, h11, go_sem, ↓reduceIte, reduceCtorEq, reduceLT, reduceEqDiff, Nat.reduceBEq, reduceAdd, reduceMul, reduceSub, reduceLeDiff, reduceReplicate]
          refine nextC_mk (by simp [setE, wrap_succ m (by omega)]) mlt ⟨rfl, by simp [setE, e2, e8, e9, e10], ⟨?_, ?_⟩⟩
          · rw [hst]; simpa [setE, e7] using hx
          · rw [hst]; exact hG
      · have hm' : m = us.length := by simp at h; omega
        subst hm'
        rw [List.take_length] at ho3
        rw [← ho3] at hrs2
        simp only [h, e9, go_sem, ↓reduceIte, reduceCtorEq, reduceLT, reduceEqDiff, Nat.reduceBEq, reduceAdd, reduceMul, reduceSub, reduceLeDiff, reduceReplicate]
        refine nextC_mk (by simp [setE, wrap_succ i (by omega)]) ilt ⟨rfl, by simp [setE, e2, e8], ⟨?_, ?_⟩⟩
        · rw [hrs2]; simpa [setE, e7] using hx
        · rw [hrs2]; exact hG
    · have hi' : i = ds.length := by simp at h; omega
      subst hi'
      rw [← ho2] at hrs
      simp only [h, e8, go_sem, ↓reduceIte, reduceCtorEq, reduceLT, reduceEqDiff, Nat.reduceBEq, reduceAdd, reduceMul, reduceSub, reduceLeDiff, reduceReplicate]
      refine nextC_mk (by simp [setE, wrap_succ r (by omega)]) rlt ⟨rfl, by simp [setE, e2], ⟨?_, ?_⟩⟩
      · rw [hrs]; simpa [setE] using hx
      · rw [hrs]; exact hG
  · have hr' : r = ds.length := by simp at h; omega
    subst hr'
    simp only [h, go_sem, ↓reduceIte, reduceCtorEq, reduceLT, reduceEqDiff, Nat.reduceBEq, reduceAdd, reduceMul, reduceSub, reduceLeDiff, reduceReplicate]
    rw [← ho1]
    exact Fz.tp2 hx.fz (.cl _ (cl_sc _))
end Go.Proofs.YtcidmkcicagpaaaGreat
