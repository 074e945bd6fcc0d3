/-
  Contracts over data of the reference's copy of a program. No condition.
-/
import Derived.Test.YtcidmkcicagpaaaGreatP12
set_option maxRecDepth 100000
set_option linter.unusedSimpArgs false
set_option linter.unusedVariables false
namespace Go.Proofs.YtcidmkcicagpaaaGreat
open Go.Fw
theorem l36Program (p : Prg) (hs : p.sz ≤ 1048576) : SpG Tryz.prog 27 [.cp p.ds] [] [] (.ag p.ds) := by
  obtain ⟨das, ds⟩ := p
  simp only [Prg.sz] at hs
  have hda : (Dat.dsL das).length = das.length := Dat.dsL_len das
  have hde : (Def.dsL ds).length = ds.length := Def.dsL_len ds
  refine SpG.of_vc [] [.cell 2 40] Tryz.func27 rfl (by kernel_rfl) Tryz.ntmps27 rfl (by simp) rfl ?_
  simp only [Prg.ds, Dat.sl, Def.sl, hda, go_sem, ↓reduceIte, reduceCtorEq, Nat.reduceLT, Nat.reduceEqDiff, Nat.reduceBEq, Nat.reduceAdd, Nat.reduceMul, Nat.reduceSub, Nat.reduceLeDiff, List.reduceReplicate]
  refine loop_countG 4 das.length (fun i => Fw.InvT 146 [(0, .cp [.sl 2 (Dat.dsL das), .sl 12 (Def.dsL ds)]), (2, .rf 2 0 0), (3, .rf 3 0 0)] fun H n T => ∃ x T0, T.Perm T0 ∧ PrgH H x (.sc (.slice none 0 0)) ∧ App H 103 107 2 (Dat.dsL (das.take i)) x T0) rfl ⟨rfl, ?_, ?_⟩ ?_
  · simp [envOf, setE]
  · exact ⟨_, _, List.Perm.refl _, ⟨⟨_, rfl, rfl⟩, rfl⟩, .nil⟩
  rintro i ⟨env, H, n, nt, T⟩ hi h5 ⟨rfl, hfs, x, T0, hT, ⟨⟨c2, hH2, hc2⟩, hH3⟩, hA⟩
  simp only [List.forall_mem_cons] at h5 hfs hT hH2 hH3 hA
  obtain ⟨e0, e2, e3, -⟩ := hfs
  simp only [h5, e0, e2, e3, hda, hda, go_sem, ↓reduceIte, reduceCtorEq, Nat.reduceLT, Nat.reduceEqDiff, Nat.reduceBEq, Nat.reduceAdd, Nat.reduceMul, Nat.reduceSub, Nat.reduceLeDiff, List.reduceReplicate]
  refine condK_split (fun h => ?_) (fun h => ?_)
  · have hlt : i < das.length := by simpa using h
    have hx := List.getElem_mem hlt
    have g0 := Dat.dsL_get das i hlt
    have hsz := Dat.sz_mem hx
    have hrow : Dat.dsL (das.take (i + 1)) = Dat.dsL (das.take i) ++ [das[i].ds] := by simp only [Dat.dsL_eq]; rw [List.take_succ_eq_append_getElem hlt, List.map_append]; rfl
    have hlk : (Dat.dsL (das.take i)).length = i := by rw [Dat.dsL_len, List.length_take]; omega
    obtain ⟨da, hdd⟩ : ∃ d, d = das[i] := ⟨_, rfl⟩
    rw [← hdd] at g0 hsz hrow
    clear hx hdd
    obtain ⟨dn, dc⟩ := da
    simp only [Dat.sz] at hsz
    have hdc : (Constructor.dsL dc).length = dc.length := Constructor.dsL_len dc
    simp only [Dat.ds, Constructor.sl] at g0 hrow
    simp only [h, h5, e0, e2, e3, hda, g0, hda, hdc, go_sem, ↓reduceIte, reduceCtorEq, Nat.reduceLT, Nat.reduceEqDiff, Nat.reduceBEq, Nat.reduceAdd, Nat.reduceMul, Nat.reduceSub, Nat.reduceLeDiff, List.reduceReplicate]
    refine loop_countG 6 dc.length (fun j => Fw.InvT 146 [(0, .cp [.sl 2 (Dat.dsL das), .sl 12 (Def.dsL ds)]), (2, .rf 2 0 0), (3, .rf 3 0 0), (4, I i), (5, .rf 5 (n 5) 0)] fun H n' T => ∃ y T2, T.Perm (T2 ++ T0) ∧ PrgH H x (.sc (.slice none 0 0)) ∧ App H 103 107 2 (Dat.dsL (das.take i)) x T0 ∧ H 5 = some ⟨n 5, 107, 2, [S dn, y], none⟩ ∧ App H 97 109 2 (Constructor.dsL (dc.take j)) y T2) rfl ⟨rfl, ?_, ?_⟩ ?_
    · simp only [h5, e0, e2, e3, hda, List.forall_mem_cons, List.not_mem_nil, false_implies, implies_true, setE, ↓reduceIte, Nat.reduceEqDiff, reduceCtorEq, and_true, true_and, and_self, eq_self]
    · exact ⟨_, [], hT, ⟨⟨c2, by simp [upd, hH2], hc2⟩, by simp [upd, hH3]⟩, hA.congr (by simp [upd]), by simp [upd], .nil⟩
    clear e0 e2 e3 h5 h hA hH2 hH3 hT
    rintro j ⟨env, H, n', nt, T⟩ hj h6 ⟨rfl, hfs, y, T2, hT, hP, hA, hH5, hY⟩
    simp only [List.forall_mem_cons] at h6 hfs hT hP hA hH5 hY
    obtain ⟨e0, e2, e3, e4, e5, -⟩ := hfs
    simp only [h6, e0, e2, e3, e4, e5, hda, hdc, g0, hdc, go_sem, ↓reduceIte, reduceCtorEq, Nat.reduceLT, Nat.reduceEqDiff, Nat.reduceBEq, Nat.reduceAdd, Nat.reduceMul, Nat.reduceSub, Nat.reduceLeDiff, List.reduceReplicate]
    refine condK_split (fun h => ?_) (fun h => ?_)
    · have hltj : j < dc.length := by simpa using h
      have hxj := List.getElem_mem hltj
      have g1 := Constructor.dsL_get dc j hltj
      have hszj := Constructor.sz_mem hxj
      have hrowj : Constructor.dsL (dc.take (j + 1)) = Constructor.dsL (dc.take j) ++ [dc[j].ds] := by simp only [Constructor.dsL_eq]; rw [List.take_succ_eq_append_getElem hltj, List.map_append]; rfl
      have hlj : (Constructor.dsL (dc.take j)).length = j := by rw [Constructor.dsL_len, List.length_take]; omega
      obtain ⟨co, hco⟩ : ∃ d, d = dc[j] := ⟨_, rfl⟩
      rw [← hco] at g1 hszj hrowj
      clear hxj hco
      obtain ⟨cn, cf⟩ := co
      simp only [Constructor.sz] at hszj
      have hcf : (Typ.dsL cf).length = cf.length := Typ.dsL_len cf
      simp only [Constructor.ds, Typ.sl] at g1 hrowj
      simp only [h, h6, e0, e2, e3, e4, e5, hda, hdc, g0, g1, hdc, hcf, go_sem, ↓reduceIte, reduceCtorEq, Nat.reduceLT, Nat.reduceEqDiff, Nat.reduceBEq, Nat.reduceAdd, Nat.reduceMul, Nat.reduceSub, Nat.reduceLeDiff, List.reduceReplicate]
      refine loop_count 8 cf.length (fun k => Fw.InvT 146 [(0, .cp [.sl 2 (Dat.dsL das), .sl 12 (Def.dsL ds)]), (2, .rf 2 0 0), (3, .rf 3 0 0), (4, I i), (5, .rf 5 (n 5) 0), (6, I j), (7, .rf 7 (n' 7) 0)] fun H _ T => ∃ z T3, T.Perm (T3 ++ (T2 ++ T0)) ∧ PrgH H x (.sc (.slice none 0 0)) ∧ App H 103 107 2 (Dat.dsL (das.take i)) x T0 ∧ H 5 = some ⟨n 5, 107, 2, [S dn, y], none⟩ ∧ App H 97 109 2 (Constructor.dsL (dc.take j)) y T2 ∧ H 7 = some ⟨n' 7, 109, 2, [S cn, z], none⟩ ∧ App H 91 46 3 (Typ.dsL (cf.take k)) z T3) rfl ⟨rfl, ?_, ?_⟩ ?_
      · simp only [h6, e0, e2, e3, e4, e5, hda, hdc, g0, List.forall_mem_cons, List.not_mem_nil, false_implies, implies_true, setE, ↓reduceIte, Nat.reduceEqDiff, reduceCtorEq, and_true, true_and, and_self, eq_self]
      · exact ⟨_, [], by simpa using hT, hP.congr (by simp [upd]) (by simp [upd]), hA.congr (by simp [upd]), by simp [upd, hH5], hY.congr (by simp [upd]), by simp [upd], .nil⟩
      clear e0 e2 e3 e4 e5 h6 h hA hH5 hY hP hT
      rintro k ⟨env, H, n'', nt, T⟩ hk h7 ⟨rfl, hfs, z, T3, hT, hP, hA, hH5, hY, hH7, hZ⟩
      simp only [List.forall_mem_cons] at h7 hfs hT hP hA hH5 hY hH7 hZ
      obtain ⟨e0, e2, e3, e4, e5, e6, e7, -⟩ := hfs
      simp only [h7, e0, e2, e3, e4, e5, e6, e7, hda, hdc, hcf, g0, g1, hcf, go_sem, ↓reduceIte, reduceCtorEq, Nat.reduceLT, Nat.reduceEqDiff, Nat.reduceBEq, Nat.reduceAdd, Nat.reduceMul, Nat.reduceSub, Nat.reduceLeDiff, List.reduceReplicate]
      refine condK_split (fun h => ?_) (fun h => ?_)
      · have hltk : k < cf.length := by simpa using h
        have hxk := List.getElem_mem hltk
        have g2 := Typ.dsL_get cf k hltk
        have hd0 := Typ.ds_len cf[k]
        have ht0 : List.take 3 cf[k].ds = cf[k].ds := List.take_of_length_le (by omega)
        have ho0 : (cf[k].ds).all oneD = true := by rw [List.all_eq_true]; exact Typ.one cf[k]
        have hrowk : Typ.dsL (cf.take (k + 1)) = Typ.dsL (cf.take k) ++ [cf[k].ds] := by simp only [Typ.dsL_eq]; rw [List.take_succ_eq_append_getElem hltk, List.map_append]; rfl
        have hlk' : (Typ.dsL (cf.take k)).length = k := by rw [Typ.dsL_len, List.length_take]; omega
        have hct := l02Own cf[k] (by have := Typ.sz_mem hxk; omega)
        simp only [h, h7, e0, e2, e3, e4, e5, e6, e7, hda, hdc, hcf, g0, g1, hH7, g2, hd0, ht0, ho0, List.take_zero, List.nil_append, go_sem, ↓reduceIte, reduceCtorEq, Nat.reduceLT, Nat.reduceEqDiff, Nat.reduceBEq, Nat.reduceAdd, Nat.reduceMul, Nat.reduceSub, Nat.reduceLeDiff, List.reduceReplicate]
        rcases hZ with ⟨hk0, rfl, rfl⟩ | ⟨hk0, gn, cs, rfl, hH, hcs⟩
        · refine drawM_intro (fun _ => (true, .ag cf[k].ds)) [] mixed (by kernel_rfl) ?_
          simp only [h, h7, e0, e2, e3, e4, e5, e6, e7, hda, hdc, hcf, g0, g1, hH7, g2, hd0, ht0, ho0, List.take_zero, List.nil_append, go_sem, ↓reduceIte, reduceCtorEq, Nat.reduceLT, Nat.reduceEqDiff, Nat.reduceBEq, Nat.reduceAdd, Nat.reduceMul, Nat.reduceSub, Nat.reduceLeDiff, List.reduceReplicate]
          refine callM_new _ rfl hct (by simp; exact Typ.cl _) (Typ.o3 _) ?_
          intro e T'' hO
          obtain ⟨es, rfl, ho⟩ := o3_ag hO
          have hes : es.length = 3 := ho.len.trans hd0
          have hes1 : es.all oneD = true := by rw [List.all_eq_true]; exact ho.one (Typ.one cf[k])
          simp only [h7, e0, e2, e3, e4, e5, e6, e7, hda, hdc, hcf, g0, g1, hH7, hes, hes1, go_sem, ↓reduceIte, reduceCtorEq, Nat.reduceLT, Nat.reduceEqDiff, Nat.reduceBEq, Nat.reduceAdd, Nat.reduceMul, Nat.reduceSub, Nat.reduceLeDiff, List.reduceReplicate]
          refine ⟨by simp [maxLen], ?_⟩
          refine nextC_mk (by simp [setE, wrap_succ k (by omega)]) hltk ⟨rfl, by simp only [h7, e0, e2, e3, e4, e5, e6, e7, hda, hdc, hcf, g0, g1, List.forall_mem_cons, List.not_mem_nil, false_implies, implies_true, setE, ↓reduceIte, Nat.reduceEqDiff, reduceCtorEq, and_true, true_and, and_self, eq_self], .ms 91 (n'' 91) 1, T'', perm_new hT, hP.congr (by simp [upd]) (by simp [upd]), hA.congr (by simp [upd]), by simp [upd, hH5], hY.congr (by simp [upd]), by simp [upd, hH7], ?_⟩
          rw [hrowk]
          exact App.one_more hk0 rfl (by simp [upd]) ho rfl
        · have hcl : cs.length = k * 3 := by rw [hcs.len, flatten_len (Typ.rows_len _), hlk']
          refine drawM_intro (fun _ => (true, .ag cf[k].ds)) [] mixed (by kernel_rfl) ?_
          simp only [h, h7, e0, e2, e3, e4, e5, e6, e7, hda, hdc, hcf, g0, g1, hH7, g2, hd0, ht0, ho0, List.take_zero, List.nil_append, go_sem, ↓reduceIte, reduceCtorEq, Nat.reduceLT, Nat.reduceEqDiff, Nat.reduceBEq, Nat.reduceAdd, Nat.reduceMul, Nat.reduceSub, Nat.reduceLeDiff, List.reduceReplicate]
          refine callM_new _ rfl hct (by simp; exact Typ.cl _) (Typ.o3 _) ?_
          intro e T'' hO
          obtain ⟨es, rfl, ho⟩ := o3_ag hO
          have hes : es.length = 3 := ho.len.trans hd0
          have hes1 : es.all oneD = true := by rw [List.all_eq_true]; exact ho.one (Typ.one cf[k])
          simp only [h7, e0, e2, e3, e4, e5, e6, e7, hda, hdc, hcf, g0, g1, hH7, hH, hcl, hlk', hes, hes1, go_sem, ↓reduceIte, reduceCtorEq, Nat.reduceLT, Nat.reduceEqDiff, Nat.reduceBEq, Nat.reduceAdd, Nat.reduceMul, Nat.reduceSub, Nat.reduceLeDiff, List.reduceReplicate]
          refine ⟨⟨by omega, by simp [maxLen]; omega⟩, ?_⟩
          refine nextC_mk (by simp [setE, wrap_succ k (by omega)]) hltk ⟨rfl, by simp only [h7, e0, e2, e3, e4, e5, e6, e7, hda, hdc, hcf, g0, g1, List.forall_mem_cons, List.not_mem_nil, false_implies, implies_true, setE, ↓reduceIte, Nat.reduceEqDiff, reduceCtorEq, and_true, true_and, and_self, eq_self], .ms 91 (n'' 91) (k + 1), T3 ++ T'', perm_mid hT, hP.congr (by simp [upd]) (by simp [upd]), hA.congr (by simp [upd]), by simp [upd, hH5], hY.congr (by simp [upd]), by simp [upd, hH7], ?_⟩
          rw [hrowk]
          exact App.more (by rw [hlk']) (by simp [upd]) hcs ho
      · have hk' : k = cf.length := by simp at h; omega
        subst hk'
        rw [List.take_length] at hZ
        have hz1 := hZ.one
        have hzc := hZ.cells
        have hfr := fun (a : Option Addr) (m c : Nat) (F : List Nat) => (OL.sc' (v := .string cn) (OL.tr' (sz := 3) (rows := Typ.dsL cf) (a := a) (n := m) (c := c) (F := F) OL.nil))
        rcases hZ.form with rfl | ⟨zg, zm, rfl⟩
        · -- no field
          simp only [h, h7, e0, e2, e3, e4, e5, e6, e7, hda, hdc, hcf, g0, g1, hH7, hH5, hH7, hlj, go_sem, ↓reduceIte, reduceCtorEq, Nat.reduceLT, Nat.reduceEqDiff, Nat.reduceBEq, Nat.reduceAdd, Nat.reduceMul, Nat.reduceSub, Nat.reduceLeDiff, List.reduceReplicate]
          rcases hY with ⟨hj0, rfl, rfl⟩ | ⟨hj0, gn, cs, rfl, hH, hcs⟩
          · simp only [h, h7, e0, e2, e3, e4, e5, e6, e7, hda, hdc, hcf, g0, g1, hH7, hH5, hH7, hlj, go_sem, ↓reduceIte, reduceCtorEq, Nat.reduceLT, Nat.reduceEqDiff, Nat.reduceBEq, Nat.reduceAdd, Nat.reduceMul, Nat.reduceSub, Nat.reduceLeDiff, List.reduceReplicate]
            refine ⟨by simp [maxLen], ?_⟩
            refine GK.app (slot := 91) (t1 := 97) (gn := n'' 97) (e1 := 109) (z1 := 2) (pre := [S cn]) (post := []) (hZ.congr (by simp [upd])) (by decide) (Typ.rows_len cf) (by simp [upd]) (by decide) hT ?_
            intro H' a m c F hH97 hHo
            refine nextC_mk (by simp [setE, wrap_succ j (by omega)]) hltj ⟨rfl, by simp only [h7, e0, e2, e3, e4, e5, e6, e7, hda, hdc, hcf, g0, g1, List.forall_mem_cons, List.not_mem_nil, false_implies, implies_true, setE, ↓reduceIte, Nat.reduceEqDiff, reduceCtorEq, and_true, true_and, and_self, eq_self], .ms 97 (n'' 97) 1, [⟨.slice a m c, .sl 3 (Typ.dsL cf), F⟩], List.Perm.refl _, hP.congr (H' := H') (by rw [hHo 2 (by decide) (by decide)]; simp [upd]) (by rw [hHo 3 (by decide) (by decide)]; simp [upd]), hA.congr (H' := H') (by rw [hHo 103 (by decide) (by decide)]; simp [upd]), by show H' 5 = _; rw [hHo 5 (by decide) (by decide)]; simp [upd], ?_⟩
            rw [hrowj]
            exact App.one_more hj0 rfl hH97 (hfr a m c F) rfl
          · have hcl : cs.length = j * 2 := by rw [hcs.len, flatten_len (Constructor.rows_len _), hlj]
            simp only [h, h7, e0, e2, e3, e4, e5, e6, e7, hda, hdc, hcf, g0, g1, hH7, hH5, hH7, hH, hcl, hlj, go_sem, ↓reduceIte, reduceCtorEq, Nat.reduceLT, Nat.reduceEqDiff, Nat.reduceBEq, Nat.reduceAdd, Nat.reduceMul, Nat.reduceSub, Nat.reduceLeDiff, List.reduceReplicate]
            refine ⟨⟨by omega, by simp [maxLen]; omega⟩, ?_⟩
            refine GK.app (slot := 91) (t1 := 97) (gn := n'' 97) (e1 := 109) (z1 := 2) (pre := cs ++ [S cn]) (post := []) (hZ.congr (by simp [upd])) (by decide) (Typ.rows_len cf) (by simp [upd]) (by decide) hT ?_
            intro H' a m c F hH97 hHo
            refine nextC_mk (by simp [setE, wrap_succ j (by omega)]) hltj ⟨rfl, by simp only [h7, e0, e2, e3, e4, e5, e6, e7, hda, hdc, hcf, g0, g1, List.forall_mem_cons, List.not_mem_nil, false_implies, implies_true, setE, ↓reduceIte, Nat.reduceEqDiff, reduceCtorEq, and_true, true_and, and_self, eq_self], .ms 97 (n'' 97) (j + 1), T2 ++ [⟨.slice a m c, .sl 3 (Typ.dsL cf), F⟩], perm_cons, hP.congr (H' := H') (by rw [hHo 2 (by decide) (by decide)]; simp [upd]) (by rw [hHo 3 (by decide) (by decide)]; simp [upd]), hA.congr (H' := H') (by rw [hHo 103 (by decide) (by decide)]; simp [upd]), by show H' 5 = _; rw [hHo 5 (by decide) (by decide)]; simp [upd], ?_⟩
            rw [hrowj]
            exact App.more (by rw [hlj]) (by show H' 97 = _; rw [hH97]; simp) hcs (hfr a m c F)
        · -- fields
          simp only [h, h7, e0, e2, e3, e4, e5, e6, e7, hda, hdc, hcf, g0, g1, hH7, hH5, hH7, hlj, go_sem, ↓reduceIte, reduceCtorEq, Nat.reduceLT, Nat.reduceEqDiff, Nat.reduceBEq, Nat.reduceAdd, Nat.reduceMul, Nat.reduceSub, Nat.reduceLeDiff, List.reduceReplicate]
          rcases hY with ⟨hj0, rfl, rfl⟩ | ⟨hj0, gn, cs, rfl, hH, hcs⟩
          · simp only [h, h7, e0, e2, e3, e4, e5, e6, e7, hda, hdc, hcf, g0, g1, hH7, hH5, hH7, hlj, go_sem, ↓reduceIte, reduceCtorEq, Nat.reduceLT, Nat.reduceEqDiff, Nat.reduceBEq, Nat.reduceAdd, Nat.reduceMul, Nat.reduceSub, Nat.reduceLeDiff, List.reduceReplicate]
            refine ⟨by simp [maxLen], ?_⟩
            refine GK.app (slot := 91) (t1 := 97) (gn := n'' 97) (e1 := 109) (z1 := 2) (pre := [S cn]) (post := []) (hZ.congr (by simp [upd])) (by decide) (Typ.rows_len cf) (by simp [upd]) (by decide) hT ?_
            intro H' a m c F hH97 hHo
            refine nextC_mk (by simp [setE, wrap_succ j (by omega)]) hltj ⟨rfl, by simp only [h7, e0, e2, e3, e4, e5, e6, e7, hda, hdc, hcf, g0, g1, List.forall_mem_cons, List.not_mem_nil, false_implies, implies_true, setE, ↓reduceIte, Nat.reduceEqDiff, reduceCtorEq, and_true, true_and, and_self, eq_self], .ms 97 (n'' 97) 1, [⟨.slice a m c, .sl 3 (Typ.dsL cf), F⟩], List.Perm.refl _, hP.congr (H' := H') (by rw [hHo 2 (by decide) (by decide)]; simp [upd]) (by rw [hHo 3 (by decide) (by decide)]; simp [upd]), hA.congr (H' := H') (by rw [hHo 103 (by decide) (by decide)]; simp [upd]), by show H' 5 = _; rw [hHo 5 (by decide) (by decide)]; simp [upd], ?_⟩
            rw [hrowj]
            exact App.one_more hj0 rfl hH97 (hfr a m c F) rfl
          · have hcl : cs.length = j * 2 := by rw [hcs.len, flatten_len (Constructor.rows_len _), hlj]
            simp only [h, h7, e0, e2, e3, e4, e5, e6, e7, hda, hdc, hcf, g0, g1, hH7, hH5, hH7, hH, hcl, hlj, go_sem, ↓reduceIte, reduceCtorEq, Nat.reduceLT, Nat.reduceEqDiff, Nat.reduceBEq, Nat.reduceAdd, Nat.reduceMul, Nat.reduceSub, Nat.reduceLeDiff, List.reduceReplicate]
            refine ⟨⟨by omega, by simp [maxLen]; omega⟩, ?_⟩
            refine GK.app (slot := 91) (t1 := 97) (gn := n'' 97) (e1 := 109) (z1 := 2) (pre := cs ++ [S cn]) (post := []) (hZ.congr (by simp [upd])) (by decide) (Typ.rows_len cf) (by simp [upd]) (by decide) hT ?_
            intro H' a m c F hH97 hHo
            refine nextC_mk (by simp [setE, wrap_succ j (by omega)]) hltj ⟨rfl, by simp only [h7, e0, e2, e3, e4, e5, e6, e7, hda, hdc, hcf, g0, g1, List.forall_mem_cons, List.not_mem_nil, false_implies, implies_true, setE, ↓reduceIte, Nat.reduceEqDiff, reduceCtorEq, and_true, true_and, and_self, eq_self], .ms 97 (n'' 97) (j + 1), T2 ++ [⟨.slice a m c, .sl 3 (Typ.dsL cf), F⟩], perm_cons, hP.congr (H' := H') (by rw [hHo 2 (by decide) (by decide)]; simp [upd]) (by rw [hHo 3 (by decide) (by decide)]; simp [upd]), hA.congr (H' := H') (by rw [hHo 103 (by decide) (by decide)]; simp [upd]), by show H' 5 = _; rw [hHo 5 (by decide) (by decide)]; simp [upd], ?_⟩
            rw [hrowj]
            exact App.more (by rw [hlj]) (by show H' 97 = _; rw [hH97]; simp) hcs (hfr a m c F)
    · have hj' : j = dc.length := by simp at h; omega
      subst hj'
      rw [List.take_length] at hY
      have hfr := fun (a : Option Addr) (m c : Nat) (F : List Nat) => (OL.sc' (v := .string dn) (OL.tr' (sz := 2) (rows := Constructor.dsL dc) (a := a) (n := m) (c := c) (F := F) OL.nil))
      obtain ⟨⟨c3, hH2, hc3⟩, hH3⟩ := hP
      rcases hY.form with rfl | ⟨yg, ym, rfl⟩
      · -- no constructor
        simp only [h, h6, e0, e2, e3, e4, e5, hda, hdc, g0, hH3, hH5, hlk, go_sem, ↓reduceIte, reduceCtorEq, Nat.reduceLT, Nat.reduceEqDiff, Nat.reduceBEq, Nat.reduceAdd, Nat.reduceMul, Nat.reduceSub, Nat.reduceLeDiff, List.reduceReplicate]
        rcases hA with ⟨hi0, rfl, rfl⟩ | ⟨hi0, gn, cs, rfl, hH, hcs⟩
        · simp only [h, h6, e0, e2, e3, e4, e5, hda, hdc, g0, hH3, hH5, hlk, go_sem, ↓reduceIte, reduceCtorEq, Nat.reduceLT, Nat.reduceEqDiff, Nat.reduceBEq, Nat.reduceAdd, Nat.reduceMul, Nat.reduceSub, Nat.reduceLeDiff, List.reduceReplicate]
          refine ⟨by simp [maxLen], ?_⟩
          refine GK.app (slot := 97) (t1 := 103) (gn := n' 103) (e1 := 107) (z1 := 2) (pre := [S dn]) (post := []) (hY.congr (by simp [upd])) (by decide) (Constructor.rows_len dc) (by simp [upd]) (by decide) hT ?_
          intro H' a m c F hH103 hHo
          refine nextC_mk (by simp [setE, wrap_succ i (by omega)]) hlt ⟨rfl, by simp only [h6, e0, e2, e3, e4, e5, hda, hdc, g0, List.forall_mem_cons, List.not_mem_nil, false_implies, implies_true, setE, ↓reduceIte, Nat.reduceEqDiff, reduceCtorEq, and_true, true_and, and_self, eq_self], .ms 103 (n' 103) 1, [⟨.slice a m c, .sl 2 (Constructor.dsL dc), F⟩], List.Perm.refl _, ⟨⟨c3, by show H' 2 = _; rw [hHo 2 (by decide) (by decide)]; simp [upd, hH2], hc3⟩, by show H' 3 = _; rw [hHo 3 (by decide) (by decide)]; simp [upd]⟩, ?_⟩
          rw [hrow]
          exact App.one_more hi0 rfl hH103 (hfr a m c F) rfl
        · have hcl : cs.length = i * 2 := by rw [hcs.len, flatten_len (Dat.rows_len _), hlk]
          simp only [h, h6, e0, e2, e3, e4, e5, hda, hdc, g0, hH3, hH5, hH, hcl, hlk, go_sem, ↓reduceIte, reduceCtorEq, Nat.reduceLT, Nat.reduceEqDiff, Nat.reduceBEq, Nat.reduceAdd, Nat.reduceMul, Nat.reduceSub, Nat.reduceLeDiff, List.reduceReplicate]
          refine ⟨⟨by omega, by simp [maxLen]; omega⟩, ?_⟩
          refine GK.app (slot := 97) (t1 := 103) (gn := n' 103) (e1 := 107) (z1 := 2) (pre := cs ++ [S dn]) (post := []) (hY.congr (by simp [upd])) (by decide) (Constructor.rows_len dc) (by simp [upd]) (by decide) hT ?_
          intro H' a m c F hH103 hHo
          refine nextC_mk (by simp [setE, wrap_succ i (by omega)]) hlt ⟨rfl, by simp only [h6, e0, e2, e3, e4, e5, hda, hdc, g0, List.forall_mem_cons, List.not_mem_nil, false_implies, implies_true, setE, ↓reduceIte, Nat.reduceEqDiff, reduceCtorEq, and_true, true_and, and_self, eq_self], .ms 103 (n' 103) (i + 1), T0 ++ [⟨.slice a m c, .sl 2 (Constructor.dsL dc), F⟩], by simpa using perm_cons (A := T0) (B := []), ⟨⟨c3, by show H' 2 = _; rw [hHo 2 (by decide) (by decide)]; simp [upd, hH2], hc3⟩, by show H' 3 = _; rw [hHo 3 (by decide) (by decide)]; simp [upd]⟩, ?_⟩
          rw [hrow]
          exact App.more (by rw [hlk]) (by show H' 103 = _; rw [hH103]; simp) hcs (hfr a m c F)
      · -- constructors
        simp only [h, h6, e0, e2, e3, e4, e5, hda, hdc, g0, hH3, hH5, hlk, go_sem, ↓reduceIte, reduceCtorEq, Nat.reduceLT, Nat.reduceEqDiff, Nat.reduceBEq, Nat.reduceAdd, Nat.reduceMul, Nat.reduceSub, Nat.reduceLeDiff, List.reduceReplicate]
        rcases hA with ⟨hi0, rfl, rfl⟩ | ⟨hi0, gn, cs, rfl, hH, hcs⟩
        · simp only [h, h6, e0, e2, e3, e4, e5, hda, hdc, g0, hH3, hH5, hlk, go_sem, ↓reduceIte, reduceCtorEq, Nat.reduceLT, Nat.reduceEqDiff, Nat.reduceBEq, Nat.reduceAdd, Nat.reduceMul, Nat.reduceSub, Nat.reduceLeDiff, List.reduceReplicate]
          refine ⟨by simp [maxLen], ?_⟩
          refine GK.app (slot := 97) (t1 := 103) (gn := n' 103) (e1 := 107) (z1 := 2) (pre := [S dn]) (post := []) (hY.congr (by simp [upd])) (by decide) (Constructor.rows_len dc) (by simp [upd]) (by decide) hT ?_
          intro H' a m c F hH103 hHo
          refine nextC_mk (by simp [setE, wrap_succ i (by omega)]) hlt ⟨rfl, by simp only [h6, e0, e2, e3, e4, e5, hda, hdc, g0, List.forall_mem_cons, List.not_mem_nil, false_implies, implies_true, setE, ↓reduceIte, Nat.reduceEqDiff, reduceCtorEq, and_true, true_and, and_self, eq_self], .ms 103 (n' 103) 1, [⟨.slice a m c, .sl 2 (Constructor.dsL dc), F⟩], List.Perm.refl _, ⟨⟨c3, by show H' 2 = _; rw [hHo 2 (by decide) (by decide)]; simp [upd, hH2], hc3⟩, by show H' 3 = _; rw [hHo 3 (by decide) (by decide)]; simp [upd]⟩, ?_⟩
          rw [hrow]
          exact App.one_more hi0 rfl hH103 (hfr a m c F) rfl
        · have hcl : cs.length = i * 2 := by rw [hcs.len, flatten_len (Dat.rows_len _), hlk]
          simp only [h, h6, e0, e2, e3, e4, e5, hda, hdc, g0, hH3, hH5, hH, hcl, hlk, go_sem, ↓reduceIte, reduceCtorEq, Nat.reduceLT, Nat.reduceEqDiff, Nat.reduceBEq, Nat.reduceAdd, Nat.reduceMul, Nat.reduceSub, Nat.reduceLeDiff, List.reduceReplicate]
          refine ⟨⟨by omega, by simp [maxLen]; omega⟩, ?_⟩
          refine GK.app (slot := 97) (t1 := 103) (gn := n' 103) (e1 := 107) (z1 := 2) (pre := cs ++ [S dn]) (post := []) (hY.congr (by simp [upd])) (by decide) (Constructor.rows_len dc) (by simp [upd]) (by decide) hT ?_
          intro H' a m c F hH103 hHo
          refine nextC_mk (by simp [setE, wrap_succ i (by omega)]) hlt ⟨rfl, by simp only [h6, e0, e2, e3, e4, e5, hda, hdc, g0, List.forall_mem_cons, List.not_mem_nil, false_implies, implies_true, setE, ↓reduceIte, Nat.reduceEqDiff, reduceCtorEq, and_true, true_and, and_self, eq_self], .ms 103 (n' 103) (i + 1), T0 ++ [⟨.slice a m c, .sl 2 (Constructor.dsL dc), F⟩], by simpa using perm_cons (A := T0) (B := []), ⟨⟨c3, by show H' 2 = _; rw [hHo 2 (by decide) (by decide)]; simp [upd, hH2], hc3⟩, by show H' 3 = _; rw [hHo 3 (by decide) (by decide)]; simp [upd]⟩, ?_⟩
          rw [hrow]
          exact App.more (by rw [hlk]) (by show H' 103 = _; rw [hH103]; simp) hcs (hfr a m c F)
  · have hi' : i = das.length := by simp at h; omega
    subst hi'
    rw [List.take_length] at hA
    clear hi
    simp only [h, h5, e0, e2, e3, hda, hde, go_sem, ↓reduceIte, reduceCtorEq, Nat.reduceLT, Nat.reduceEqDiff, Nat.reduceBEq, Nat.reduceAdd, Nat.reduceMul, Nat.reduceSub, Nat.reduceLeDiff, List.reduceReplicate]
    refine loop_count 9 ds.length (fun k => Fw.InvT 146 [(0, .cp [.sl 2 (Dat.dsL das), .sl 12 (Def.dsL ds)]), (2, .rf 2 0 0), (3, .rf 3 0 0)] fun H _ T => ∃ w T4, T.Perm (T4 ++ T0) ∧ PrgH H x w ∧ App H 103 107 2 (Dat.dsL das) x T0 ∧ App H 143 51 12 (Def.dsL (ds.take k)) w T4) rfl ⟨rfl, ?_, ?_⟩ ?_
    · simp only [h5, e0, e2, e3, hda, List.forall_mem_cons, List.not_mem_nil, false_implies, implies_true, setE, ↓reduceIte, Nat.reduceEqDiff, reduceCtorEq, and_true, true_and, and_self, eq_self]
    · exact ⟨_, [], hT, ⟨⟨c2, hH2, hc2⟩, hH3⟩, hA, .nil⟩
    clear e0 e2 e3 h5 h hA hH2 hH3 hT
    rintro k ⟨env, H, n', nt, T⟩ hk h5 ⟨rfl, hfs, w, T4, hT, ⟨⟨c3, hH2, hc3⟩, hH3⟩, hA, hW⟩
    simp only [List.forall_mem_cons] at h5 hfs hT hH2 hH3 hA hW
    obtain ⟨e0, e2, e3, -⟩ := hfs
    simp only [h5, e0, e2, e3, hde, hde, go_sem, ↓reduceIte, reduceCtorEq, Nat.reduceLT, Nat.reduceEqDiff, Nat.reduceBEq, Nat.reduceAdd, Nat.reduceMul, Nat.reduceSub, Nat.reduceLeDiff, List.reduceReplicate]
    refine condK_split (fun h => ?_) (fun h => ?_)
    · have hlt : k < ds.length := by simpa using h
      have hx := List.getElem_mem hlt
      have g0 := Def.dsL_get ds k hlt
      have hsz := Def.sz_mem hx
      have hrow : Def.dsL (ds.take (k + 1)) = Def.dsL (ds.take k) ++ [ds[k].ds] := by simp only [Def.dsL_eq]; rw [List.take_succ_eq_append_getElem hlt, List.map_append]; rfl
      have hlk : (Def.dsL (ds.take k)).length = k := by rw [Def.dsL_len, List.length_take]; omega
      obtain ⟨de, hdd⟩ : ∃ d, d = ds[k] := ⟨_, rfl⟩
      rw [← hdd] at g0 hsz hrow
      clear hx hdd
      obtain ⟨dn, ⟨tk, tn, tks⟩, ⟨bk, bv, bn, ⟨uk, un, uks⟩, ns, ks⟩⟩ := de
      simp only [Def.sz] at hsz
      have hct := l02Own (.mk tk tn tks) (by omega)
      have hcl1 := Typ.cl (.mk tk tn tks)
      have ho31 := Typ.o3 (.mk tk tn tks)
      have hcb := l36Term (.mk bk bv bn (.mk uk un uks) ns ks) (by omega)
      have hcl2 := Term.cl (.mk bk bv bn (.mk uk un uks) ns ks)
      have ho32 := Term.o3 (.mk bk bv bn (.mk uk un uks) ns ks)
      simp only [Def.ds, Term.ds, Typ.ds, strs, List.cons_append, List.nil_append] at g0 hrow hct hcl1 ho31 hcb hcl2 ho32
      simp only [h, h5, e0, e2, e3, hde, g0, hde, hH3, go_sem, ↓reduceIte, reduceCtorEq, Nat.reduceLT, Nat.reduceEqDiff, Nat.reduceBEq, Nat.reduceAdd, Nat.reduceMul, Nat.reduceSub, Nat.reduceLeDiff, List.reduceReplicate]
      rcases hW with ⟨hk0, rfl, rfl⟩ | ⟨hk0, gn, cs, rfl, hH, hcs⟩
      · -- the first
        refine drawM_intro (fun t => if t = 132 then (true, .ag [I tk, S tn, .sl 3 (Typ.dsL tks)]) else (true, .ag [I bk, I bv, S bn, I uk, S un, .sl 3 (Typ.dsL uks), .sl 1 (ns.map fun s => [S s]), .sl 8 (Term.dsL ks)])) [] mixed (by kernel_rfl) ?_
        simp only [h, h5, e0, e2, e3, hde, g0, hH3, go_sem, ↓reduceIte, reduceCtorEq, Nat.reduceLT, Nat.reduceEqDiff, Nat.reduceBEq, Nat.reduceAdd, Nat.reduceMul, Nat.reduceSub, Nat.reduceLeDiff, List.reduceReplicate]
        refine callM_new _ rfl hct (by simpa using hcl1) ho31 ?_
        intro e T1 hO1
        obtain ⟨a1, n1, c1, F1, rfl, rfl⟩ := typ_open hO1
        simp only [h, h5, e0, e2, e3, hde, g0, hH3, go_sem, ↓reduceIte, reduceCtorEq, Nat.reduceLT, Nat.reduceEqDiff, Nat.reduceBEq, Nat.reduceAdd, Nat.reduceMul, Nat.reduceSub, Nat.reduceLeDiff, List.reduceReplicate]
        refine callM_new _ rfl hcb (by simpa using hcl2) ho32 ?_
        intro e T2 hO2
        obtain ⟨es, rfl, ho, hes, hes1⟩ := term_open hO2
        simp only [h, h5, e0, e2, e3, hde, g0, hH3, hes, hes1, go_sem, ↓reduceIte, reduceCtorEq, Nat.reduceLT, Nat.reduceEqDiff, Nat.reduceBEq, Nat.reduceAdd, Nat.reduceMul, Nat.reduceSub, Nat.reduceLeDiff, List.reduceReplicate]
        have hdr := OL.sc' (v := .string dn) (OL.sc' (v := .int .i64 tk) (OL.sc' (v := .string tn) (OL.tr' (sz := 3) (rows := Typ.dsL tks) (a := a1) (n := n1) (c := c1) (F := F1) ho)))
        refine ⟨by simp [maxLen], ?_⟩
        refine nextC_mk (by simp [setE, wrap_succ k (by omega)]) hlt ⟨rfl, by simp only [h5, e0, e2, e3, hde, List.forall_mem_cons, List.not_mem_nil, false_implies, implies_true, setE, ↓reduceIte, Nat.reduceEqDiff, reduceCtorEq, and_true, true_and, and_self, eq_self], .ms 143 (n' 143) 1, ⟨.slice a1 n1 c1, .sl 3 (Typ.dsL tks), F1⟩ :: T2, by rw [List.append_assoc]; exact perm_new hT, ⟨⟨c3, by simp [upd, hH2], hc3⟩, by simp [upd]⟩, hA.congr (by simp [upd]), ?_⟩
        rw [hrow]
        exact App.one_more hk0 rfl (by simp [upd]) hdr rfl
      · -- one more
        have hcl : cs.length = k * 12 := by rw [hcs.len, flatten_len (Def.rows_len _), hlk]
        refine drawM_intro (fun t => if t = 132 then (true, .ag [I tk, S tn, .sl 3 (Typ.dsL tks)]) else (true, .ag [I bk, I bv, S bn, I uk, S un, .sl 3 (Typ.dsL uks), .sl 1 (ns.map fun s => [S s]), .sl 8 (Term.dsL ks)])) [] mixed (by kernel_rfl) ?_
        simp only [h, h5, e0, e2, e3, hde, g0, hH3, go_sem, ↓reduceIte, reduceCtorEq, Nat.reduceLT, Nat.reduceEqDiff, Nat.reduceBEq, Nat.reduceAdd, Nat.reduceMul, Nat.reduceSub, Nat.reduceLeDiff, List.reduceReplicate]
        refine callM_new _ rfl hct (by simpa using hcl1) ho31 ?_
        intro e T1 hO1
        obtain ⟨a1, n1, c1, F1, rfl, rfl⟩ := typ_open hO1
        simp only [h, h5, e0, e2, e3, hde, g0, hH3, go_sem, ↓reduceIte, reduceCtorEq, Nat.reduceLT, Nat.reduceEqDiff, Nat.reduceBEq, Nat.reduceAdd, Nat.reduceMul, Nat.reduceSub, Nat.reduceLeDiff, List.reduceReplicate]
        refine callM_new _ rfl hcb (by simpa using hcl2) ho32 ?_
        intro e T2 hO2
        obtain ⟨es, rfl, ho, hes, hes1⟩ := term_open hO2
        simp only [h, h5, e0, e2, e3, hde, g0, hH3, hes, hes1, hH, hcl, hlk, go_sem, ↓reduceIte, reduceCtorEq, Nat.reduceLT, Nat.reduceEqDiff, Nat.reduceBEq, Nat.reduceAdd, Nat.reduceMul, Nat.reduceSub, Nat.reduceLeDiff, List.reduceReplicate]
        have hdr := OL.sc' (v := .string dn) (OL.sc' (v := .int .i64 tk) (OL.sc' (v := .string tn) (OL.tr' (sz := 3) (rows := Typ.dsL tks) (a := a1) (n := n1) (c := c1) (F := F1) ho)))
        refine ⟨⟨by omega, by simp [maxLen]; omega⟩, ?_⟩
        refine nextC_mk (by simp [setE, wrap_succ k (by omega)]) hlt ⟨rfl, by simp only [h5, e0, e2, e3, hde, List.forall_mem_cons, List.not_mem_nil, false_implies, implies_true, setE, ↓reduceIte, Nat.reduceEqDiff, reduceCtorEq, and_true, true_and, and_self, eq_self], .ms 143 (n' 143) (k + 1), T4 ++ (⟨.slice a1 n1 c1, .sl 3 (Typ.dsL tks), F1⟩ :: T2), by rw [List.append_assoc]; exact perm_mid hT, ⟨⟨c3, by simp [upd, hH2], hc3⟩, by simp [upd]⟩, hA.congr (by simp [upd]), ?_⟩
        rw [hrow]
        exact App.more (by rw [hlk]) (by simp [upd]) hcs hdr
    · have hk' : k = ds.length := by simp at h; omega
      subst hk'
      rw [List.take_length] at hW
      obtain ⟨y0, y1, rfl⟩ : ∃ a b, c3 = [a, b] := by
        match c3, hc3 with
        | [a, b], _ => exact ⟨a, b, rfl⟩
      simp only [h, h5, e0, e2, e3, hde, hH2, hH3, go_sem, ↓reduceIte, reduceCtorEq, Nat.reduceLT, Nat.reduceEqDiff, Nat.reduceBEq, Nat.reduceAdd, Nat.reduceMul, Nat.reduceSub, Nat.reduceLeDiff, List.reduceReplicate]
      refine ⟨by rw [Bool.and_eq_true]; exact ⟨hA.one, hW.one⟩, ?_⟩
      obtain ⟨us, u1, u2, u3⟩ := (hA.congr (H' := upd H 2 (some ⟨0, 40, 2, [x, w], none⟩)) (by simp [upd])).c1 (by decide) (Dat.rows_len das)
      obtain ⟨us', u1', u2', u3'⟩ := (hW.congr (H' := upd H 2 (some ⟨0, 40, 2, [x, w], none⟩)) (by simp [upd])).c1 (by decide) (Def.rows_len ds)
      refine closeK_perm (.cons u1 (.cons u1' .nil)) (by simpa [inls_app, u2, u2'] using hT.trans List.perm_append_comm) ?_
      rw [List.append_nil, inrs_app]
      rcases u3 with e | e <;> rcases u3' with e' | e' <;> rw [e, e'] <;> simp
end Go.Proofs.YtcidmkcicagpaaaGreat
