/-
  Contracts over data of ValidDatas, of the program and of the reference. No condition.
-/
import Derived.Test.YtcidmkcicagpaaaGreatP7
import Derived.Test.YtcidmkcicagpaaaGreatFw9
namespace Go.Proofs.YtcidmkcicagpaaaGreat
open Go.Fw
open Nat (reduceLT reduceEqDiff reduceAdd reduceMul reduceSub reduceLeDiff)
open List (reduceReplicate)
open Classical
set_option maxRecDepth 100000
set_option linter.unusedSimpArgs false
set_option linter.unusedVariables false
theorem findV_str (s : ByteArray) : ∀ l : List ByteArray, (s ∈ l ∧ ∃ j, j < l.length ∧ findV .string (.string s) (l.map Value.string) = some (some j)) ∨ (s ∉ l ∧ findV .string (.string s) (l.map Value.string) = some none)
  | [] => .inr ⟨by simp, rfl⟩
  | x :: l => by
    by_cases h : s = x
    · refine .inl ⟨by simp [h], 0, by simp, ?_⟩
      have : (s == x) = true := (MapKept.bytes_beq s x).2 h
      simp [findV, Instr.sameNow, this]
    · have hb : (s == x) = false := by
        cases hb : s == x with
        | false => rfl
        | true => exact absurd ((MapKept.bytes_beq s x).1 hb) h
      rcases findV_str s l with ⟨h1, j, h2, h3⟩ | ⟨h1, h3⟩
      · exact .inl ⟨by simp [h1], j + 1, by simp; omega, by simp [findV, Instr.sameNow, hb, h3]⟩
      · exact .inr ⟨by simp [h, h1], by simp [findV, Instr.sameNow, hb, h3]⟩
def cnames (d : Dat) : List ByteArray := (Dat.cs d).map Constructor.nm
def accN (ds : List Dat) (i k : Nat) : List ByteArray := ((ds.take i).map cnames).flatten ++ ((ds.drop i).head?.map fun d => (cnames d).take k).getD []
def dHead (ds : List Dat) (i : Nat) (d : Dat) : Bool := upB (Dat.nm d) && !decide (Dat.nm d = nInt) && !((ds.take i).any fun e => decide (Dat.nm e = Dat.nm d)) && decide (1 ≤ (Dat.cs d).length) && decide ((Dat.cs d).length ≤ 4)
theorem dHead_mk (ds : List Dat) (i : Nat) (dn : ByteArray) (dc : List Constructor) : dHead ds i (.mk dn dc) = (upB dn && !decide (dn = nInt) && !((ds.take i).any fun e => decide (Dat.nm e = dn)) && decide (1 ≤ dc.length) && decide (dc.length ≤ 4)) := rfl
def cOk (ds : List Dat) (i k : Nat) (c : Constructor) : Prop := conF ds c = true ∧ Constructor.nm c ∉ accN ds i k
def dOk (ds : List Dat) (i : Nat) (d : Dat) : Prop := dHead ds i d = true ∧ ∀ (k : Nat) (h : k < (Dat.cs d).length), cOk ds i k (Dat.cs d)[k]
def vdP (ds : List Dat) : Prop := ds.length ≤ 4 ∧ ∀ (i : Nat) (h : i < ds.length), dOk ds i ds[i]
theorem acc_zero (ds : List Dat) : accN ds 0 0 = [] := by
  simp only [accN, List.take_zero, List.map_nil, List.flatten_nil, List.nil_append, List.drop_zero]
  cases ds <;> simp
theorem drop_head (ds : List Dat) (i : Nat) (h : i < ds.length) : (ds.drop i).head? = some ds[i] := by rw [List.drop_eq_getElem_cons h]; rfl
theorem acc_k (ds : List Dat) (i k : Nat) (h : i < ds.length) (hk : k < (Dat.cs ds[i]).length) : accN ds i (k + 1) = accN ds i k ++ [Constructor.nm (Dat.cs ds[i])[k]] := by
  simp only [accN, drop_head ds i h, Option.map_some, Option.getD_some]
  rw [List.take_succ_eq_append_getElem (by simp [cnames]; exact hk), List.append_assoc]
  simp [cnames]
theorem acc_i (ds : List Dat) (i : Nat) (h : i < ds.length) : accN ds i (Dat.cs ds[i]).length = accN ds (i + 1) 0 := by
  simp only [accN, drop_head ds i h, Option.map_some, Option.getD_some]
  have e : ((ds.take (i + 1)).map cnames).flatten = ((ds.take i).map cnames).flatten ++ cnames ds[i] := by
    rw [List.take_succ_eq_append_getElem h]; simp only [List.map_append, List.map_cons, List.map_nil, List.flatten_append, List.flatten_cons, List.flatten_nil, List.append_nil]
  have : (cnames ds[i]).length = (Dat.cs ds[i]).length := by simp [cnames]
  rw [← this, List.take_length, e]
  cases h2 : (ds.drop (i + 1)).head? <;> simp only [Option.map_none, Option.map_some, Option.getD_none, Option.getD_some, List.take_zero, List.append_nil]
theorem acc_at0 (ds : List Dat) (i : Nat) : accN ds i 0 = ((ds.take i).map cnames).flatten := by
  simp only [accN]
  cases h2 : (ds.drop i).head? <;> simp
theorem dat_take (l : List Dat) (k : Nat) : (Dat.dsL l).take k = Dat.dsL (l.take k) := by simp [Dat.dsL_eq]
theorem idx_first (p : Dat → Bool) (ds : List Dat) (i : Nat) (h : i < ds.length) (hp : p ds[i] = true) : (idxF p ds = (i : Int)) ↔ (ds.take i).any p = false := by
  constructor
  · intro he
    cases hb : (ds.take i).any p with
    | false => rfl
    | true =>
      rw [List.any_eq_true] at hb
      obtain ⟨x, hx, hpx⟩ := hb
      obtain ⟨j, hj, rfl⟩ := List.mem_take_iff_getElem.1 hx
      have hm : ∃ m, ∃ hm : m < ds.length, m ≤ j ∧ p ds[m] = true ∧ (ds.take m).any p = false := by
        have key : ∀ n, ∀ j (hj : j < ds.length), j ≤ n → p ds[j] = true → ∃ m, ∃ hm : m < ds.length, m ≤ j ∧ p ds[m] = true ∧ (ds.take m).any p = false := by
          intro n
          induction n with
          | zero =>
            intro j hj hn hp
            have h0 : j = 0 := by omega
            subst h0
            exact ⟨0, hj, Nat.le_refl _, hp, by simp⟩
          | succ n ih =>
            intro j hj hn hp
            cases hb : (ds.take j).any p with
            | false => exact ⟨j, hj, Nat.le_refl _, hp, hb⟩
            | true =>
              rw [List.any_eq_true] at hb
              obtain ⟨x, hx, hpx⟩ := hb
              obtain ⟨j', hj', rfl⟩ := List.mem_take_iff_getElem.1 hx
              obtain ⟨m, hm, h1, h2, h3⟩ := ih j' (by omega) (by omega) hpx
              exact ⟨m, hm, by omega, h2, h3⟩
        exact key j j (by omega) (Nat.le_refl _) hpx
      obtain ⟨m, hm, h1, h2, h3⟩ := hm
      have := idxF_hit hm h3 h2
      omega
  · intro hb
    exact idxF_hit h hb hp
theorem validDatas (ds : List Dat) (hl : ds.length ≤ maxLen) (hs : Dat.szS ds ≤ 1048576) (ho : Dat.okS ds) : Sp Tryz.prog 66 [Dat.sl ds] (B (decide (vdP ds))) := by
  have hl' := hl
  unfold maxLen at hl
  have hda : (Dat.dsL ds).length = ds.length := Dat.dsL_len ds
  refine Sp.of_vc [] [.tmp 2] Tryz.func66 rfl (by kernel_rfl) Tryz.ntmps66 rfl (by simp) ?_
  simp only [hda, go_sem, ↓reduceIte, reduceCtorEq, reduceLT, reduceEqDiff, Nat.reduceBEq, reduceAdd, reduceMul, reduceSub, reduceLeDiff, reduceReplicate]
  by_cases c0 : (ds.length : Int) > 4
  · simp only [decide_eq_true c0, go_sem, ↓reduceIte, reduceCtorEq, reduceLT, reduceEqDiff, Nat.reduceBEq, reduceAdd, reduceMul, reduceSub, reduceLeDiff, reduceReplicate]
    refine Fz.bool ?_
    symm; rw [decide_eq_false_iff_not]; rintro ⟨h, _⟩; omega
  simp only [decide_eq_false c0, hda, go_sem, ↓reduceIte, reduceCtorEq, reduceLT, reduceEqDiff, Nat.reduceBEq, reduceAdd, reduceMul, reduceSub, reduceLeDiff, reduceReplicate]
  refine loop_count 14 ds.length (fun i => Fw.InvT 71 [(0, Dat.sl ds), (12, Dat.sl ds), (13, I ds.length), (3, .mp 11 0)] fun H n T => H 11 = some ⟨0, 0, 1, List.replicate (accN ds i 0).length (B true), some ((accN ds i 0).map Value.string)⟩ ∧ ∀ (j : Nat) (h : j < ds.length), j < i → dOk ds j ds[j]) rfl ⟨rfl, by simp [Dat.sl, envOf, setE], by simp [upd, acc_zero], by simp⟩ ?_
  rintro i ⟨env, H, n, nt, T⟩ hi h5 ⟨rfl, hfs, hH, hp⟩
  simp only [List.forall_mem_cons, Dat.sl] at h5 hfs hH
  obtain ⟨e0, e1, e2, e3, -⟩ := hfs
  simp only [h5, e0, e1, e2, e3, hda, go_sem, ↓reduceIte, reduceCtorEq, reduceLT, reduceEqDiff, Nat.reduceBEq, reduceAdd, reduceMul, reduceSub, reduceLeDiff, reduceReplicate]
  refine condK_split (fun h => ?_) (fun h => ?_)
  · have hlt : i < ds.length := by simpa using h
    have hx := List.getElem_mem hlt
    have g0 := Dat.dsL_get ds i hlt
    have hds := drop_head ds i hlt
    have hsz := Dat.sz_mem hx
    have hok := Dat.okS_mem ho _ hx
    have hak := acc_k ds i
    have hai := acc_i ds i hlt
    have bad : ¬ dOk ds i ds[i] → false = decide (vdP ds) := fun hb => by
      symm; rw [decide_eq_false_iff_not]; rintro ⟨_, hh⟩; exact hb (hh i hlt)
    have next : dOk ds i ds[i] → ∀ (j : Nat) (h : j < ds.length), j < i + 1 → dOk ds j ds[j] := fun hd j hj hji => by
      by_cases hji' : j < i
      · exact hp j hj hji'
      · have : j = i := by omega
        subst this; exact hd
    obtain ⟨d, hd⟩ : ∃ d, d = ds[i] := ⟨_, rfl⟩
    have hak := fun k => hak k hlt
    rw [← hd] at g0 hsz hok bad next hai hak
    clear hds hx hd
    obtain ⟨dn, dc⟩ := d
    simp only [Dat.ok] at hok
    simp only [Dat.sz] at hsz
    obtain ⟨o1, o2, o3⟩ := hok
    simp only [Dat.cs] at hai hak
    have hdc : (Constructor.dsL dc).length = dc.length := Constructor.dsL_len dc
    have hkl : ((i : Int) ≤ (ds.length : Int)) = True := eq_true (by omega)
    simp only [Dat.ds, List.cons_append, List.nil_append, Constructor.sl] at g0
    simp only [h, h5, e0, e1, e2, e3, g0, hda, go_sem, ↓reduceIte, reduceCtorEq, reduceLT, reduceEqDiff, Nat.reduceBEq, reduceAdd, reduceMul, reduceSub, reduceLeDiff, reduceReplicate]
    refine drawK_intro mixed (by kernel_rfl) ?_
    refine callQ_intro _ (isUpper dn o1) (by simp) rfl ?_
    cases c1 : upB dn
    · simp only [go_sem, ↓reduceIte, reduceCtorEq, reduceLT, reduceEqDiff, Nat.reduceBEq, reduceAdd, reduceMul, reduceSub, reduceLeDiff, reduceReplicate]
      exact Fz.bool (bad (by rintro ⟨h, _⟩; rw [dHead_mk, c1] at h; simp at h))
    simp only [e0, go_sem, ↓reduceIte, reduceCtorEq, reduceLT, reduceEqDiff, Nat.reduceBEq, reduceAdd, reduceMul, reduceSub, reduceLeDiff, reduceReplicate]
    by_cases c2 : dn = nInt
    · have f2 : (dn.toList == (⟨#[73, 110, 116]⟩ : ByteArray).toList) = true := by rw [bytes_eq]; exact decide_eq_true c2
      simp only [f2, go_sem, ↓reduceIte, reduceCtorEq, reduceLT, reduceEqDiff, Nat.reduceBEq, reduceAdd, reduceMul, reduceSub, reduceLeDiff, reduceReplicate]
      exact Fz.bool (bad (by rintro ⟨h, _⟩; rw [dHead_mk, decide_eq_true c2] at h; simp at h))
    have f2 : (dn.toList == (⟨#[73, 110, 116]⟩ : ByteArray).toList) = false := by rw [bytes_eq]; exact decide_eq_false c2
    simp only [f2, h5, e0, hda, hkl, dat_take, nz, List.drop_zero, go_sem, ↓reduceIte, reduceCtorEq, reduceLT, reduceEqDiff, Nat.reduceBEq, reduceAdd, reduceMul, reduceSub, reduceLeDiff, reduceReplicate]
    refine callQ_intro _ (findData (ds.take i) dn (by simp; unfold maxLen; omega)) (by simp only [List.nil_append, List.append_nil, List.forall_mem_cons]; exact ⟨Dat.cl_sl _, cl_sc _, by simp⟩) rfl ?_
    have f3 : decide (namedI (ds.take i) dn ≥ 0) = ((ds.take i).any fun e => decide (Dat.nm e = dn)) := idxF_any _
    simp only [f3, go_sem, ↓reduceIte, reduceCtorEq, reduceLT, reduceEqDiff, Nat.reduceBEq, reduceAdd, reduceMul, reduceSub, reduceLeDiff, reduceReplicate]
    cases c3 : (ds.take i).any fun e => decide (Dat.nm e = dn)
    case true =>
      simp only [go_sem, ↓reduceIte, reduceCtorEq, reduceLT, reduceEqDiff, Nat.reduceBEq, reduceAdd, reduceMul, reduceSub, reduceLeDiff, reduceReplicate]
      exact Fz.bool (bad (by rintro ⟨h, _⟩; rw [dHead_mk, c3] at h; simp at h))
    simp only [hdc, go_sem, ↓reduceIte, reduceCtorEq, reduceLT, reduceEqDiff, Nat.reduceBEq, reduceAdd, reduceMul, reduceSub, reduceLeDiff, reduceReplicate]
    by_cases c4 : (dc.length : Int) < 1
    · simp only [decide_eq_true c4, go_sem, ↓reduceIte, reduceCtorEq, reduceLT, reduceEqDiff, Nat.reduceBEq, reduceAdd, reduceMul, reduceSub, reduceLeDiff, reduceReplicate]
      exact Fz.bool (bad (by rintro ⟨h, _⟩; rw [dHead_mk, decide_eq_false (show ¬ 1 ≤ dc.length by omega)] at h; simp at h))
    simp only [decide_eq_false c4, hdc, go_sem, ↓reduceIte, reduceCtorEq, reduceLT, reduceEqDiff, Nat.reduceBEq, reduceAdd, reduceMul, reduceSub, reduceLeDiff, reduceReplicate]
    by_cases c5 : (dc.length : Int) > 4
    · simp only [decide_eq_true c5, go_sem, ↓reduceIte, reduceCtorEq, reduceLT, reduceEqDiff, Nat.reduceBEq, reduceAdd, reduceMul, reduceSub, reduceLeDiff, reduceReplicate]
      exact Fz.bool (bad (by rintro ⟨h, _⟩; rw [dHead_mk, decide_eq_false (show ¬ dc.length ≤ 4 by omega)] at h; simp at h))
    have hhead : dHead ds i (.mk dn dc) = true := by
      have q1 : 1 ≤ dc.length := by omega
      have q2 : dc.length ≤ 4 := by omega
      rw [dHead_mk, c1, c3, decide_eq_false c2, decide_eq_true q1, decide_eq_true q2]; rfl
    simp only [decide_eq_false c5, hdc, go_sem, ↓reduceIte, reduceCtorEq, reduceLT, reduceEqDiff, Nat.reduceBEq, reduceAdd, reduceMul, reduceSub, reduceLeDiff, reduceReplicate]
    refine loop_count 52 dc.length (fun k => Fw.InvT 71 [(0, Dat.sl ds), (12, Dat.sl ds), (13, I ds.length), (14, I i), (3, .mp 11 0), (50, Constructor.sl dc), (51, I dc.length)] fun H n T => H 11 = some ⟨0, 0, 1, List.replicate (accN ds i k).length (B true), some ((accN ds i k).map Value.string)⟩ ∧ ∀ (j : Nat) (h : j < dc.length), j < k → cOk ds i j dc[j]) rfl ⟨rfl, ?_, ?_, by simp⟩ ?_
    · simp only [h5, e0, e1, e2, e3, Dat.sl, Constructor.sl, List.forall_mem_cons, List.not_mem_nil, false_implies, implies_true, setE, ↓reduceIte, Nat.reduceEqDiff, reduceCtorEq, and_true, true_and, and_self, eq_self]
    · simp [upd, hH]
    clear e0 e1 e2 e3 h5 hH h
    rintro k ⟨env, H, n, nt, T⟩ hk h6 ⟨rfl, hfs, hH, hq⟩
    simp only [List.forall_mem_cons, Dat.sl, Constructor.sl] at h6 hfs hH
    obtain ⟨e0, e1, e2, h5, e3, e4, e5, -⟩ := hfs
    simp only [h5, h6, e0, e1, e2, e3, e4, e5, hda, hdc, go_sem, ↓reduceIte, reduceCtorEq, reduceLT, reduceEqDiff, Nat.reduceBEq, reduceAdd, reduceMul, reduceSub, reduceLeDiff, reduceReplicate]
    refine condK_split (fun h => ?_) (fun h => ?_)
    · have hltk : k < dc.length := by simpa using h
      have hxk := List.getElem_mem hltk
      have g1 := Constructor.dsL_get dc k hltk
      have hcs := Constructor.sz_mem hxk
      have hco := Constructor.okS_mem o3 _ hxk
      have hak := hak k hltk
      have bad2 : ¬ cOk ds i k dc[k] → false = decide (vdP ds) := fun hb => bad (by rintro ⟨_, hh⟩; exact hb (hh k hltk))
      have next2 : cOk ds i k dc[k] → ∀ (j : Nat) (h : j < dc.length), j < k + 1 → cOk ds i j dc[j] := fun hd j hj hji => by
        by_cases hji' : j < k
        · exact hq j hj hji'
        · have : j = k := by omega
          subst this; exact hd
      obtain ⟨c, hc⟩ : ∃ c, c = dc[k] := ⟨_, rfl⟩
      rw [← hc] at g1 hcs hco bad2 next2 hak
      clear hxk hc
      obtain ⟨cn, cf⟩ := c
      have hcds : Constructor.ds (.mk cn cf) = [S cn, .sl 3 (Typ.dsL cf)] := by simp [Constructor.ds, Typ.sl]
      have vc := validConstructor ds hl' (.mk cn cf) (by simp only [Constructor.sz] at hcs ⊢; omega) hco
      rw [hcds] at g1 vc
      simp only [Constructor.nm] at hak
      simp only [h, h5, h6, e0, e1, e2, e3, e4, e5, g1, hda, hdc, go_sem, ↓reduceIte, reduceCtorEq, reduceLT, reduceEqDiff, Nat.reduceBEq, reduceAdd, reduceMul, reduceSub, reduceLeDiff, reduceReplicate]
      refine callK_intro _ vc (by rw [← hcds]; simp only [List.nil_append, List.append_nil, List.forall_mem_cons]; exact ⟨Dat.cl_sl _, Cl.ag' (Constructor.cl _), by simp⟩) ?_
      cases d1 : conF ds (.mk cn cf)
      · simp only [go_sem, ↓reduceIte, reduceCtorEq, reduceLT, reduceEqDiff, Nat.reduceBEq, reduceAdd, reduceMul, reduceSub, reduceLeDiff, reduceReplicate]
        exact Fz.bool (bad2 (by rintro ⟨h, _⟩; rw [d1] at h; cases h))
      rcases findV_str cn (accN ds i k) with ⟨m1, j, m2, m3⟩ | ⟨m1, m3⟩
      · have hrep : (List.replicate (accN ds i k).length (B true))[j]? = some (B true) := by rw [List.getElem?_replicate, if_pos m2]
        simp only [e3, hH, m3, hrep, go_sem, ↓reduceIte, reduceCtorEq, reduceLT, reduceEqDiff, Nat.reduceBEq, reduceAdd, reduceMul, reduceSub, reduceLeDiff, reduceReplicate]
        exact Fz.bool (bad2 (by rintro ⟨_, h⟩; exact h m1))
      · simp only [h5, h6, e0, e1, e2, e3, e4, e5, hH, m3, List.length_replicate, List.length_map, go_sem, ↓reduceIte, reduceCtorEq, reduceLT, reduceEqDiff, Nat.reduceBEq, reduceAdd, reduceMul, reduceSub, reduceLeDiff, reduceReplicate]
        refine nextC_mk (by simp [setE, wrap_succ k (by omega)]) hltk ⟨rfl, ?_, ?_, next2 ⟨d1, m1⟩⟩
        · simp only [h5, e0, e1, e2, e3, e4, e5, Dat.sl, Constructor.sl, List.forall_mem_cons, List.not_mem_nil, false_implies, implies_true, setE, ↓reduceIte, Nat.reduceEqDiff, reduceCtorEq, and_true, true_and, and_self, eq_self]
        · simp only [upd, ↓reduceIte, hak, List.length_append, List.map_append, List.map_cons, List.map_nil, List.length_cons, List.length_nil, Nat.zero_add, List.replicate_succ']
    · have hk' : k = dc.length := by simp at h; omega
      subst hk'
      simp only [h, h5, h6, e0, e1, e2, e3, e4, e5, go_sem, ↓reduceIte, reduceCtorEq, reduceLT, reduceEqDiff, Nat.reduceBEq, reduceAdd, reduceMul, reduceSub, reduceLeDiff, reduceReplicate]
      refine nextC_mk (by simp [setE, wrap_succ i (by omega)]) hlt ⟨rfl, ?_, by rw [← hai]; exact hH, next ⟨hhead, fun j hj => hq j hj hj⟩⟩
      simp only [e0, e1, e2, e3, Dat.sl, List.forall_mem_cons, List.not_mem_nil, false_implies, implies_true, setE, ↓reduceIte, Nat.reduceEqDiff, reduceCtorEq, and_true, true_and, and_self, eq_self]
  · have hi' : i = ds.length := by simp at h; omega
    simp only [h, go_sem, ↓reduceIte, reduceCtorEq, reduceLT, reduceEqDiff, Nat.reduceBEq, reduceAdd, reduceMul, reduceSub, reduceLeDiff, reduceReplicate]
    refine Fz.bool ?_
    symm; rw [decide_eq_true_eq]
    exact ⟨by omega, fun j hj => hp j hj (by omega)⟩
end Go.Proofs.YtcidmkcicagpaaaGreat
