/-
  Contracts over data of the reference ValidDatas. No condition.
-/
import Derived.Test.YtcidmkcicagpaaaGreatP8
namespace Go.Proofs.YtcidmkcicagpaaaGreat
open Go.Fw
open Nat (reduceLT reduceEqDiff reduceAdd reduceMul reduceSub reduceLeDiff)
open List (reduceReplicate)
open Classical
set_option maxRecDepth 100000
set_option linter.unusedSimpArgs false
set_option linter.unusedVariables false
def NmOb (H : Nat → Option Ob) (x : D) (l : List ByteArray) : Prop := ∃ sl gn, (sl = 11 ∨ sl = 91) ∧ x = .ms sl gn l.length ∧ H sl = some ⟨gn, 9, 1, l.map fun s => S s, none⟩
theorem NmOb.congr {H H' : Nat → Option Ob} {x : D} {l : List ByteArray} (h : NmOb H x l) (k : ∀ sl, (sl = 11 ∨ sl = 91) → H' sl = H sl) : NmOb H' x l := by
  obtain ⟨sl, gn, h1, h2, h3⟩ := h
  exact ⟨sl, gn, h1, h2, by rw [k sl h1]; exact h3⟩
theorem l02Ok (ds : List Dat) (hl : ds.length ≤ maxLen) (hs : Dat.szS ds ≤ 1048576) (ho : Dat.okS ds) : Sp Tryz.prog 55 [Dat.sl ds] (B (decide (vdP ds))) := by
  have hl' := hl
  unfold maxLen at hl
  have hda : (Dat.dsL ds).length = ds.length := Dat.dsL_len ds
  refine Sp.of_vc [] [.tmp 2] Tryz.func55 rfl (by kernel_rfl) Tryz.ntmps55 rfl (by simp) ?_
  simp only [hda, go_sem, ↓reduceIte, reduceCtorEq, reduceLT, reduceEqDiff, Nat.reduceBEq, reduceAdd, reduceMul, reduceSub, reduceLeDiff, reduceReplicate]
  by_cases c0 : (ds.length : Int) > 4
  · simp only [decide_eq_true c0, go_sem, ↓reduceIte, reduceCtorEq, reduceLT, reduceEqDiff, Nat.reduceBEq, reduceAdd, reduceMul, reduceSub, reduceLeDiff, reduceReplicate]
    refine Fz.bool ?_
    symm; rw [decide_eq_false_iff_not]; rintro ⟨h, _⟩; omega
  simp only [decide_eq_false c0, hda, go_sem, ↓reduceIte, reduceCtorEq, reduceLT, reduceEqDiff, Nat.reduceBEq, reduceAdd, reduceMul, reduceSub, reduceLeDiff, reduceReplicate]
  refine loop_count 4 ds.length (fun i => Fw.InvH 92 [(0, Dat.sl ds)] fun H env n => NmOb H (env 3) (accN ds i 0) ∧ ∀ (j : Nat) (h : j < ds.length), j < i → dOk ds j ds[j]) rfl ⟨rfl, by simp [Dat.sl, envOf, setE], ⟨11, 0, .inl rfl, by simp [setE, acc_zero], by simp [upd, acc_zero]⟩, by simp⟩ ?_
  rintro i ⟨env, H, n, nt, T⟩ hi h5 ⟨rfl, hfs, hN, hp⟩
  simp only [List.forall_mem_cons, Dat.sl] at h5 hfs hN
  obtain ⟨e0, -⟩ := hfs
  simp only [h5, e0, hda, go_sem, ↓reduceIte, reduceCtorEq, reduceLT, reduceEqDiff, Nat.reduceBEq, reduceAdd, reduceMul, reduceSub, reduceLeDiff, reduceReplicate]
  refine condK_split (fun h => ?_) (fun h => ?_)
  · have hlt : i < ds.length := by simpa using h
    have hx := List.getElem_mem hlt
    have g0 := Dat.dsL_get ds i hlt
    have hsz := Dat.sz_mem hx
    have hok := Dat.okS_mem ho _ hx
    have hak := acc_k ds i
    have hai := acc_i ds i hlt
    have bad : ¬ dOk ds i ds[i] → false = decide (vdP ds) := fun hb => by
      symm; rw [decide_eq_false_iff_not]; rintro ⟨_, hh⟩; exact hb (hh i hlt)
    have next : dOk ds i ds[i] → ∀ (j : Nat) (h : j < ds.length), j < i + 1 → dOk ds j ds[j] := fun hd j hj hji => by
      by_cases hji' : j < i
      · exact hp j hj hji'
      · have : j = i := by omega
        subst this; exact hd
    have hfirst := fun p hp => idx_first p ds i hlt hp
    obtain ⟨d, hd⟩ : ∃ d, d = ds[i] := ⟨_, rfl⟩
    have hak := fun k => hak k hlt
    rw [← hd] at g0 hsz hok bad next hai hak hfirst
    clear hx hd
    obtain ⟨dn, dc⟩ := d
    simp only [Dat.ok] at hok
    simp only [Dat.sz] at hsz
    obtain ⟨o1, o2, o3⟩ := hok
    simp only [Dat.cs] at hai hak
    have o2' := o2
    unfold maxLen at o2'
    have hdc : (Constructor.dsL dc).length = dc.length := Constructor.dsL_len dc
    simp only [Dat.ds, List.cons_append, List.nil_append, Constructor.sl] at g0
    simp only [h, h5, e0, g0, hda, go_sem, ↓reduceIte, reduceCtorEq, reduceLT, reduceEqDiff, Nat.reduceBEq, reduceAdd, reduceMul, reduceSub, reduceLeDiff, reduceReplicate]
    refine callK_intro _ (specIsUpper dn o1) (by simp) ?_
    cases c1 : upB dn
    · simp only [go_sem, ↓reduceIte, reduceCtorEq, reduceLT, reduceEqDiff, Nat.reduceBEq, reduceAdd, reduceMul, reduceSub, reduceLeDiff, reduceReplicate]
      exact Fz.bool (bad (by rintro ⟨h, _⟩; rw [dHead_mk, c1] at h; simp at h))
    simp only [e0, go_sem, ↓reduceIte, reduceCtorEq, reduceLT, reduceEqDiff, Nat.reduceBEq, reduceAdd, reduceMul, reduceSub, reduceLeDiff, reduceReplicate]
    by_cases c2 : dn = nInt
    · have f2 : (dn.toList == (⟨#[73, 110, 116]⟩ : ByteArray).toList) = true := by rw [bytes_eq]; exact decide_eq_true c2
      simp only [f2, go_sem, ↓reduceIte, reduceCtorEq, reduceLT, reduceEqDiff, Nat.reduceBEq, reduceAdd, reduceMul, reduceSub, reduceLeDiff, reduceReplicate]
      exact Fz.bool (bad (by rintro ⟨h, _⟩; rw [dHead_mk, decide_eq_true c2] at h; simp at h))
    have f2 : (dn.toList == (⟨#[73, 110, 116]⟩ : ByteArray).toList) = false := by rw [bytes_eq]; exact decide_eq_false c2
    simp only [f2, h5, e0, hda, go_sem, ↓reduceIte, reduceCtorEq, reduceLT, reduceEqDiff, Nat.reduceBEq, reduceAdd, reduceMul, reduceSub, reduceLeDiff, reduceReplicate]
    refine callK_intro _ (l02Named ds dn hl') (by simp only [List.nil_append, List.append_nil, List.forall_mem_cons]; exact ⟨Dat.cl_sl _, cl_sc _, by simp⟩) ?_
    have hfx := hfirst (fun e => decide (Dat.nm e = dn)) (by simp [Dat.nm])
    by_cases c3 : namedI ds dn = (i : Int)
    case neg =>
      have f3 : (namedI ds dn != (i : Int)) = true := bne_t c3
      have c3' : ((ds.take i).any fun e => decide (Dat.nm e = dn)) = true := by
        cases hb : (ds.take i).any fun e => decide (Dat.nm e = dn)
        · exact absurd (hfx.2 hb) c3
        · rfl
      simp only [f3, h5, go_sem, ↓reduceIte, reduceCtorEq, reduceLT, reduceEqDiff, Nat.reduceBEq, reduceAdd, reduceMul, reduceSub, reduceLeDiff, reduceReplicate]
      exact Fz.bool (bad (by rintro ⟨h, _⟩; rw [dHead_mk, c3'] at h; simp at h))
    have f3 : (namedI ds dn != (i : Int)) = false := bne_f c3
    have c3' : ((ds.take i).any fun e => decide (Dat.nm e = dn)) = false := hfx.1 c3
    simp only [f3, h5, hdc, go_sem, ↓reduceIte, reduceCtorEq, reduceLT, reduceEqDiff, Nat.reduceBEq, reduceAdd, reduceMul, reduceSub, reduceLeDiff, reduceReplicate]
    by_cases c4 : (dc.length : Int) < 1
    · simp only [decide_eq_true c4, go_sem, ↓reduceIte, reduceCtorEq, reduceLT, reduceEqDiff, Nat.reduceBEq, reduceAdd, reduceMul, reduceSub, reduceLeDiff, reduceReplicate]
      exact Fz.bool (bad (by rintro ⟨h, _⟩; rw [dHead_mk, decide_eq_false (show ¬ 1 ≤ dc.length by omega)] at h; simp at h))
    simp only [decide_eq_false c4, hdc, go_sem, ↓reduceIte, reduceCtorEq, reduceLT, reduceEqDiff, Nat.reduceBEq, reduceAdd, reduceMul, reduceSub, reduceLeDiff, reduceReplicate]
    by_cases c5 : (dc.length : Int) > 4
    · simp only [decide_eq_true c5, go_sem, ↓reduceIte, reduceCtorEq, reduceLT, reduceEqDiff, Nat.reduceBEq, reduceAdd, reduceMul, reduceSub, reduceLeDiff, reduceReplicate]
      exact Fz.bool (bad (by rintro ⟨h, _⟩; rw [dHead_mk, decide_eq_false (show ¬ dc.length ≤ 4 by omega)] at h; simp at h))
    have hhead : dHead ds i (.mk dn dc) = true := by
      have q1 : 1 ≤ dc.length := by omega
      have q2 : dc.length ≤ 4 := by omega
      rw [dHead_mk, c1, c3', decide_eq_false c2, decide_eq_true q1, decide_eq_true q2]; rfl
    simp only [decide_eq_false c5, hdc, go_sem, ↓reduceIte, reduceCtorEq, reduceLT, reduceEqDiff, Nat.reduceBEq, reduceAdd, reduceMul, reduceSub, reduceLeDiff, reduceReplicate]
    refine loop_count 6 dc.length (fun k => Fw.InvH 92 [(0, Dat.sl ds), (4, I i), (5, .rf 5 (n 5) 0)] fun H env _ => H 5 = some ⟨n 5, 107, 2, [S dn, .sl 2 (Constructor.dsL dc)], none⟩ ∧ NmOb H (env 3) (accN ds i k) ∧ ∀ (j : Nat) (h : j < dc.length), j < k → cOk ds i j dc[j]) rfl ⟨rfl, ?_, by simp [upd], ?_, by simp⟩ ?_
    · simp only [h5, e0, Dat.sl, List.forall_mem_cons, List.not_mem_nil, false_implies, implies_true, setE, ↓reduceIte, Nat.reduceEqDiff, reduceCtorEq, and_true, true_and, and_self, eq_self]
    · exact hN.congr fun sl hsl => by rcases hsl with rfl | rfl <;> simp [upd]
    clear e0 h5 hN h
    rintro k ⟨env, H, n', nt, T⟩ hk h6 ⟨rfl, hfs, hH5, hN, hq⟩
    simp only [List.forall_mem_cons, Dat.sl] at h6 hfs hH5 hN
    obtain ⟨e0, e4, e5, -⟩ := hfs
    simp only [h6, e0, e4, e5, hH5, hda, hdc, go_sem, ↓reduceIte, reduceCtorEq, reduceLT, reduceEqDiff, Nat.reduceBEq, reduceAdd, reduceMul, reduceSub, reduceLeDiff, reduceReplicate]
    refine condK_split (fun h => ?_) (fun h => ?_)
    · have hltk : k < dc.length := by simpa using h
      have hxk := List.getElem_mem hltk
      have g1 := Constructor.dsL_get dc k hltk
      have hcs := Constructor.sz_mem hxk
      have hco := Constructor.okS_mem o3 _ hxk
      have hak0 := hak
      have hak := hak k hltk
      have bad2 : ¬ cOk ds i k dc[k] → false = decide (vdP ds) := fun hb => bad (by rintro ⟨_, hh⟩; exact hb (hh k hltk))
      have next2 : cOk ds i k dc[k] → ∀ (j : Nat) (h : j < dc.length), j < k + 1 → cOk ds i j dc[j] := fun hd j hj hji => by
        by_cases hji' : j < k
        · exact hq j hj hji'
        · have : j = k := by omega
          subst this; exact hd
      obtain ⟨c, hc⟩ : ∃ c, c = dc[k] := ⟨_, rfl⟩
      rw [← hc] at g1 hcs hco bad2 next2 hak
      clear hxk hc
      obtain ⟨cn, cf⟩ := c
      have hcds : Constructor.ds (.mk cn cf) = [S cn, .sl 3 (Typ.dsL cf)] := by simp [Constructor.ds, Typ.sl]
      have vc := l02Cons ds hl' (.mk cn cf) (by simp only [Constructor.sz] at hcs ⊢; omega) hco
      rw [hcds] at g1 vc
      simp only [Constructor.nm] at hak
      simp only [h, h6, e0, e4, e5, hH5, g1, hda, hdc, go_sem, ↓reduceIte, reduceCtorEq, reduceLT, reduceEqDiff, Nat.reduceBEq, reduceAdd, reduceMul, reduceSub, reduceLeDiff, reduceReplicate]
      refine callK_intro _ vc (by rw [← hcds]; simp only [List.nil_append, List.append_nil, List.forall_mem_cons]; exact ⟨Dat.cl_sl _, Cl.ag' (Constructor.cl _), by simp⟩) ?_
      cases d1 : conF ds (.mk cn cf)
      · simp only [go_sem, ↓reduceIte, reduceCtorEq, reduceLT, reduceEqDiff, Nat.reduceBEq, reduceAdd, reduceMul, reduceSub, reduceLeDiff, reduceReplicate]
        exact Fz.bool (bad2 (by rintro ⟨h, _⟩; rw [d1] at h; cases h))
      simp only [go_sem, ↓reduceIte, reduceCtorEq, reduceLT, reduceEqDiff, Nat.reduceBEq, reduceAdd, reduceMul, reduceSub, reduceLeDiff, reduceReplicate]
      have hnl : (accN ds i k).length ≤ 1048576 := by
        have q : ∀ (l : List Dat), ((l.map cnames).flatten).length ≤ Dat.szS l := by
          intro l
          induction l with
          | nil => simp
          | cons x l ih =>
            obtain ⟨xn, xc⟩ := x
            simp only [List.map_cons, List.flatten_cons, List.length_append, Dat.szS_eq, List.sum_cons] at ih ⊢
            simp only [Dat.sz, cnames, Dat.cs, List.length_map]
            omega
        have hai2 : (accN ds i dc.length).length ≤ Dat.szS ds := by
          rw [hai, acc_at0]
          exact Nat.le_trans (q _) (Dat.szS_le ds (i + 1))
        have hmono : ∀ m, k + m ≤ dc.length → (accN ds i k).length ≤ (accN ds i (k + m)).length := by
          intro m
          induction m with
          | zero => intro _; exact Nat.le_refl _
          | succ m ih =>
            intro hm
            have h1 := ih (by omega)
            have h2 := hak0 (k + m) (by omega)
            rw [show k + (m + 1) = k + m + 1 by omega, h2, List.length_append]
            omega
        have := hmono (dc.length - k) (by omega)
        rw [show k + (dc.length - k) = dc.length by omega] at this
        omega
      obtain ⟨nm, hnm⟩ : ∃ nm, nm = accN ds i k := ⟨_, rfl⟩
      rw [← hnm] at hN hak hnl
      refine loop_count 7 nm.length (fun m => Fw.InvH 92 [(0, Dat.sl ds), (4, I i), (5, .rf 5 (n 5) 0), (6, I k)] fun H env _ => H 5 = some ⟨n 5, 107, 2, [S dn, .sl 2 (Constructor.dsL dc)], none⟩ ∧ NmOb H (env 3) nm ∧ (nm.take m).any (fun x => decide (x = cn)) = false) rfl ⟨rfl, ?_, hH5, ?_, by simp⟩ ?_
      · simp only [h6, e0, e4, e5, Dat.sl, List.forall_mem_cons, List.not_mem_nil, false_implies, implies_true, setE, ↓reduceIte, Nat.reduceEqDiff, reduceCtorEq, and_true, true_and, and_self, eq_self]
      · simpa [setE] using hN
      clear e0 e4 e5 h6 hN h hH5
      rintro m ⟨env, H, n'', nt, T⟩ hm h7 ⟨rfl, hfs, hH5, hN, hany⟩
      simp only [List.forall_mem_cons, Dat.sl] at h7 hfs hH5 hN
      obtain ⟨e0, e4, e5, h6, -⟩ := hfs
      obtain ⟨sl, gn, hsl, e3, hH3⟩ := hN
      rcases hsl with rfl | rfl
      · simp only [h6, h7, e0, e3, e4, e5, hH3, hH5, hda, hdc, go_sem, ↓reduceIte, reduceCtorEq, reduceLT, reduceEqDiff, Nat.reduceBEq, reduceAdd, reduceMul, reduceSub, reduceLeDiff, reduceReplicate]
        refine condK_split (fun h => ?_) (fun h => ?_)
        · have hltm : m < nm.length := by simpa using h
          have hml : ((m : Int) < (nm.length : Int)) = True := eq_true (by omega)
          have hdm : (List.drop m (nm.map fun s => S s)).head? = some (S nm[m]) := by simp [hltm]
          simp only [h, h6, h7, e0, e3, e4, e5, hH3, hH5, g1, hml, hdm, Nat.mul_one, hda, hdc, go_sem, ↓reduceIte, reduceCtorEq, reduceLT, reduceEqDiff, Nat.reduceBEq, reduceAdd, reduceMul, reduceSub, reduceLeDiff, reduceReplicate]
          refine drawK_intro mixed (by kernel_rfl) ?_
          by_cases hc : nm[m] = cn
          · have f1 : (nm[m].toList == cn.toList) = true := by rw [bytes_eq]; exact decide_eq_true hc
            simp only [f1, go_sem, ↓reduceIte, reduceCtorEq, reduceLT, reduceEqDiff, Nat.reduceBEq, reduceAdd, reduceMul, reduceSub, reduceLeDiff, reduceReplicate]
            exact Fz.bool (bad2 (by rintro ⟨_, hh⟩; rw [← hnm] at hh; exact hh (by show cn ∈ nm; rw [← hc]; exact List.getElem_mem hltm)))
          · have f1 : (nm[m].toList == cn.toList) = false := by rw [bytes_eq]; exact decide_eq_false hc
            simp only [f1, h7, go_sem, ↓reduceIte, reduceCtorEq, reduceLT, reduceEqDiff, Nat.reduceBEq, reduceAdd, reduceMul, reduceSub, reduceLeDiff, reduceReplicate]
            refine nextC_mk (by simp [setE, wrap_succ m (by omega)]) hltm ⟨rfl, ?_, hH5, ⟨_, gn, .inl rfl, by simp [setE, e3], hH3⟩, by rw [any_take_succ hltm, hany]; simp [hc]⟩
            simp only [h6, e0, e4, e5, Dat.sl, List.forall_mem_cons, List.not_mem_nil, false_implies, implies_true, setE, ↓reduceIte, Nat.reduceEqDiff, reduceCtorEq, and_true, true_and, and_self, eq_self]
        · have hm' : m = nm.length := by simp at h; omega
          subst hm'
          rw [List.take_length] at hany
          have hnot : cn ∉ nm := fun hh => by
            rw [List.any_eq_false] at hany
            exact hany cn hh (by simp)
          simp only [h, h6, h7, e0, e3, e4, e5, hH3, hH5, g1, hda, hdc, List.length_map, Nat.mul_one, go_sem, ↓reduceIte, reduceCtorEq, reduceLT, reduceEqDiff, Nat.reduceBEq, reduceAdd, reduceMul, reduceSub, reduceLeDiff, reduceReplicate]
          refine ⟨⟨by omega, by simp [maxLen]; omega⟩, ?_⟩
          refine nextC_mk (by simp [setE, wrap_succ k (by omega)]) hltk ⟨rfl, ?_, by simp [upd, hH5], ⟨91, n'' 91, .inr rfl, ?_, ?_⟩, next2 ⟨d1, by rw [← hnm]; exact hnot⟩⟩
          · simp only [h6, e0, e4, e5, Dat.sl, List.forall_mem_cons, List.not_mem_nil, false_implies, implies_true, setE, ↓reduceIte, Nat.reduceEqDiff, reduceCtorEq, and_true, true_and, and_self, eq_self]
          · simp [setE, hak]
          · simp [upd, hak]
      · simp only [h6, h7, e0, e3, e4, e5, hH3, hH5, hda, hdc, go_sem, ↓reduceIte, reduceCtorEq, reduceLT, reduceEqDiff, Nat.reduceBEq, reduceAdd, reduceMul, reduceSub, reduceLeDiff, reduceReplicate]
        refine condK_split (fun h => ?_) (fun h => ?_)
        · have hltm : m < nm.length := by simpa using h
          have hml : ((m : Int) < (nm.length : Int)) = True := eq_true (by omega)
          have hdm : (List.drop m (nm.map fun s => S s)).head? = some (S nm[m]) := by simp [hltm]
          simp only [h, h6, h7, e0, e3, e4, e5, hH3, hH5, g1, hml, hdm, Nat.mul_one, hda, hdc, go_sem, ↓reduceIte, reduceCtorEq, reduceLT, reduceEqDiff, Nat.reduceBEq, reduceAdd, reduceMul, reduceSub, reduceLeDiff, reduceReplicate]
          refine drawK_intro mixed (by kernel_rfl) ?_
          by_cases hc : nm[m] = cn
          · have f1 : (nm[m].toList == cn.toList) = true := by rw [bytes_eq]; exact decide_eq_true hc
            simp only [f1, go_sem, ↓reduceIte, reduceCtorEq, reduceLT, reduceEqDiff, Nat.reduceBEq, reduceAdd, reduceMul, reduceSub, reduceLeDiff, reduceReplicate]
            exact Fz.bool (bad2 (by rintro ⟨_, hh⟩; rw [← hnm] at hh; exact hh (by show cn ∈ nm; rw [← hc]; exact List.getElem_mem hltm)))
          · have f1 : (nm[m].toList == cn.toList) = false := by rw [bytes_eq]; exact decide_eq_false hc
            simp only [f1, h7, go_sem, ↓reduceIte, reduceCtorEq, reduceLT, reduceEqDiff, Nat.reduceBEq, reduceAdd, reduceMul, reduceSub, reduceLeDiff, reduceReplicate]
            refine nextC_mk (by simp [setE, wrap_succ m (by omega)]) hltm ⟨rfl, ?_, hH5, ⟨_, gn, .inr rfl, by simp [setE, e3], hH3⟩, by rw [any_take_succ hltm, hany]; simp [hc]⟩
            simp only [h6, e0, e4, e5, Dat.sl, List.forall_mem_cons, List.not_mem_nil, false_implies, implies_true, setE, ↓reduceIte, Nat.reduceEqDiff, reduceCtorEq, and_true, true_and, and_self, eq_self]
        · have hm' : m = nm.length := by simp at h; omega
          subst hm'
          rw [List.take_length] at hany
          have hnot : cn ∉ nm := fun hh => by
            rw [List.any_eq_false] at hany
            exact hany cn hh (by simp)
          simp only [h, h6, h7, e0, e3, e4, e5, hH3, hH5, g1, hda, hdc, List.length_map, Nat.mul_one, go_sem, ↓reduceIte, reduceCtorEq, reduceLT, reduceEqDiff, Nat.reduceBEq, reduceAdd, reduceMul, reduceSub, reduceLeDiff, reduceReplicate]
          refine ⟨⟨by omega, by simp [maxLen]; omega⟩, ?_⟩
          refine nextC_mk (by simp [setE, wrap_succ k (by omega)]) hltk ⟨rfl, ?_, by simp [upd, hH5], ⟨91, n'' 91, .inr rfl, ?_, ?_⟩, next2 ⟨d1, by rw [← hnm]; exact hnot⟩⟩
          · simp only [h6, e0, e4, e5, Dat.sl, List.forall_mem_cons, List.not_mem_nil, false_implies, implies_true, setE, ↓reduceIte, Nat.reduceEqDiff, reduceCtorEq, and_true, true_and, and_self, eq_self]
          · simp [setE, hak]
          · simp [upd, hak]
    · have hk' : k = dc.length := by simp at h; omega
      subst hk'
      simp only [h, h6, e0, e4, e5, go_sem, ↓reduceIte, reduceCtorEq, reduceLT, reduceEqDiff, Nat.reduceBEq, reduceAdd, reduceMul, reduceSub, reduceLeDiff, reduceReplicate]
      refine nextC_mk (by simp [setE, wrap_succ i (by omega)]) hlt ⟨rfl, ?_, by rw [← hai]; simpa [setE] using hN, next ⟨hhead, fun j hj => hq j hj hj⟩⟩
      simp only [e0, Dat.sl, List.forall_mem_cons, List.not_mem_nil, false_implies, implies_true, setE, ↓reduceIte, Nat.reduceEqDiff, reduceCtorEq, and_true, true_and, and_self, eq_self]
  · have hi' : i = ds.length := by simp at h; omega
    simp only [h, go_sem, ↓reduceIte, reduceCtorEq, reduceLT, reduceEqDiff, Nat.reduceBEq, reduceAdd, reduceMul, reduceSub, reduceLeDiff, reduceReplicate]
    refine Fz.bool ?_
    symm; rw [decide_eq_true_eq]
    exact ⟨by omega, fun j hj => hp j hj (by omega)⟩
end Go.Proofs.YtcidmkcicagpaaaGreat
