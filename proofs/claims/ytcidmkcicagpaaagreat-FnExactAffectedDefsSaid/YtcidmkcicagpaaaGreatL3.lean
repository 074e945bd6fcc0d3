/-
  Contracts over data of the law package's marks: what they write, and that what they wrote is held. No condition.
-/
import Derived.Test.YtcidmkcicagpaaaGreatVs
set_option maxRecDepth 100000
set_option linter.unusedSimpArgs false
set_option linter.unusedVariables false
namespace Go.Proofs.YtcidmkcicagpaaaGreat
open Go.Fw
open Nat (reduceLT reduceEqDiff reduceAdd reduceMul reduceSub reduceLeDiff)
open List (reduceReplicate)
def mdig (k : Nat) (o : ByteArray) : ByteArray :=
  if h : k = 0 then o else mdig (k / 10) (strOfNums [IntKind.u8.wrap (IntKind.i64.wrap (48 + ((k : Int).tmod 10)))] ++ o)
termination_by k
decreasing_by omega
def mText (k : Int) : ByteArray := if k ≤ 0 then ⟨#[109, 48]⟩ else ⟨#[109]⟩ ++ mdig k.toNat ByteArray.empty
theorem markText (k : Int) (h0 : 0 ≤ k) (h1 : k ≤ 1099511627776) : Sp Tryz.prog 78 [I k] (S (mText k)) := by
  refine Sp.of_vc [] [.tmp 2] Tryz.func78 rfl (by kernel_rfl) Tryz.ntmps78 rfl (by simp) ?_
  simp only [go_sem, ↓reduceIte, reduceCtorEq, reduceLT, reduceEqDiff, Nat.reduceBEq, reduceAdd, reduceMul, reduceSub, reduceLeDiff, reduceReplicate]
  refine condK_split (fun h => ?_) (fun h => ?_)
  · simp only [h, go_sem, ↓reduceIte, reduceCtorEq, reduceLT, reduceEqDiff, Nat.reduceBEq, reduceAdd, reduceMul, reduceSub, reduceLeDiff, reduceReplicate]
    simp at h
    exact Fz.val (by rw [mText, if_pos h])
  · simp only [h, go_sem, ↓reduceIte, reduceCtorEq, reduceLT, reduceEqDiff, Nat.reduceBEq, reduceAdd, reduceMul, reduceSub, reduceLeDiff, reduceReplicate]
    simp at h
    obtain ⟨m, rfl⟩ : ∃ m : Nat, k = m := ⟨k.toNat, by omega⟩
    refine loop_meas (fun s => s.nt = 20 ∧ ∃ (n : Nat) (o : ByteArray), s.env 0 = I n ∧ s.env 3 = S o ∧ mdig n o = mdig m ByteArray.empty ∧ n + o.size ≤ 1099511627776) (fun s => match s.env 0 with | .sc (.int _ n) => n.toNat | _ => 0) ⟨rfl, m, ByteArray.empty, by simp [setE, envOf], by simp [setE]; rfl, rfl, by have : ByteArray.empty.size = 0 := rfl; omega⟩ ?_
    rintro ⟨env, H, n', nt, T⟩ ⟨rfl, n, o, e0, e3, hd, hb⟩
    simp only at e0 e3
    simp only [e0, e3, go_sem, ↓reduceIte, reduceCtorEq, reduceLT, reduceEqDiff, Nat.reduceBEq, reduceAdd, reduceMul, reduceSub, reduceLeDiff, reduceReplicate]
    refine condK_split (fun hc => ?_) (fun hc => ?_)
    · simp at hc
      have q1 : ((n : Int).tdiv 10) = ((n / 10 : Nat) : Int) := by
        rw [Int.tdiv_eq_ediv_of_nonneg (by omega)]; omega
      have w1 : IntKind.i64.wrap (((n / 10 : Nat) : Int)) = ((n / 10 : Nat) : Int) := Go.IntWalk.i64_in _ (by omega)
      have hs : ∀ x : Int, (strOfNums [x]).size + o.size ≤ maxLen := fun x => by rw [strOfNums_size]; simp [maxLen]; omega
      have t10 : ((10 : Int) = 0) = False := by simp
      simp only [hc, e0, e3, q1, w1, hs, t10, go_sem, ↓reduceIte, reduceCtorEq, reduceLT, reduceEqDiff, Nat.reduceBEq, reduceAdd, reduceMul, reduceSub, reduceLeDiff, reduceReplicate, decide_true, Int.reduceEq, IntKind.max, Nat.reduceAdd, Nat.reduceMul]
      refine ⟨⟨rfl, n / 10, _, by simp [setE], by simp [setE]; rfl, ?_, ?_⟩, ?_⟩
      · rw [← hd, mdig.eq_def n o, dif_neg (by omega)]
      · rw [ByteArray.size_append, strOfNums_size]; simp; omega
      · simp [setE]; omega
    · simp at hc
      subst hc
      have hz : (#[(109 : UInt8)].size + o.size ≤ maxLen) = True := eq_true (by simp [maxLen] at hb ⊢; omega)
      have hz' : ((⟨#[109]⟩ : ByteArray).size + o.size ≤ maxLen) = True := hz
      simp only [gt_iff_lt, Int.natCast_zero, Int.lt_irrefl, hz, hz', e0, e3, go_sem, ↓reduceIte, reduceCtorEq, reduceLT, reduceEqDiff, Nat.reduceBEq, reduceAdd, reduceMul, reduceSub, reduceLeDiff, reduceReplicate, decide_false]
      refine Fz.val ?_
      rw [mText, if_neg (by omega), Int.toNat_natCast, ← hd, mdig.eq_def 0 o, dif_pos rfl]
theorem permB (A B C : List TE) : (A ++ B ++ C).Perm (B ++ (A ++ C)) := by
  rw [← List.append_assoc]; exact List.Perm.append_right C List.perm_append_comm
theorem permT (A B : List TE) (x : TE) : (A ++ x :: B).Perm ([x] ++ (A ++ B)) := List.perm_middle
def markStr : List ByteArray → Int → List ByteArray
  | [], _ => []
  | _ :: l, k => mText k :: markStr l (k + 1)
def markInt : List Int → Int → List Int
  | [], _ => []
  | _ :: l, k => k :: markInt l (k + 1)
theorem markStr_len : ∀ (l : List ByteArray) (k : Int), (markStr l k).length = l.length
  | [], _ => rfl
  | _ :: l, k => by simp [markStr, markStr_len l]
theorem markInt_len : ∀ (l : List Int) (k : Int), (markInt l k).length = l.length
  | [], _ => rfl
  | _ :: l, k => by simp [markInt, markInt_len l]
theorem markStr_app : ∀ (a b : List ByteArray) (k : Int), markStr (a ++ b) k = markStr a k ++ markStr b (k + a.length)
  | [], b, k => by simp [markStr]
  | x :: a, b, k => by simp only [List.cons_append, markStr, markStr_app a, List.length_cons, List.cons.injEq, true_and]; congr 2; omega
theorem markInt_app : ∀ (a b : List Int) (k : Int), markInt (a ++ b) k = markInt a k ++ markInt b (k + a.length)
  | [], b, k => by simp [markInt]
  | x :: a, b, k => by simp only [List.cons_append, markInt, markInt_app a, List.length_cons, List.cons.injEq, true_and]; congr 2; omega
theorem markStr_get (l : List ByteArray) (k : Int) (i : Nat) (h : i < l.length) : (markStr l k)[i]? = some (mText (k + i)) := by
  have hs : l = l.take i ++ l[i] :: l.drop (i + 1) := by rw [← List.drop_eq_getElem_cons h, List.take_append_drop]
  rw [hs, markStr_app, List.getElem?_append_right (by rw [markStr_len]; simp; omega)]
  simp [markStr, markStr_len, Nat.min_eq_left (Nat.le_of_lt h)]
theorem markInt_get (l : List Int) (k : Int) (i : Nat) (h : i < l.length) : (markInt l k)[i]? = some (k + i) := by
  have hs : l = l.take i ++ l[i] :: l.drop (i + 1) := by rw [← List.drop_eq_getElem_cons h, List.take_append_drop]
  rw [hs, markInt_app, List.getElem?_append_right (by rw [markInt_len]; simp; omega)]
  simp [markInt, markInt_len, Nat.min_eq_left (Nat.le_of_lt h)]
end Go.Proofs.YtcidmkcicagpaaaGreat
namespace Go.Fw
open Go.Proofs.YtcidmkcicagpaaaGreat
mutual
def Typ.cnt : Typ → Nat
  | .mk x0 x1 x2 => 1 + 1 + Typ.cntL x2
def Typ.cntL : List Typ → Nat
  | [] => 0
  | c :: cs => c.cnt + Typ.cntL cs
end
mutual
def Typ.mark : Typ → Int → Typ
  | .mk x0 x1 x2, k => .mk k (mText (k + 1)) (Typ.markL x2 ((k + 1) + 1))
def Typ.markL : List Typ → Int → List Typ
  | [], _ => []
  | c :: cs, k => c.mark k :: Typ.markL cs (k + (c.cnt : Nat))
end
theorem Typ.markL_len : ∀ (l : List Typ) (k : Int), (Typ.markL l k).length = l.length
  | [], _ => by simp [Typ.markL]
  | _ :: l, k => by simp [Typ.markL, Typ.markL_len l]
theorem Typ.cntL_app : ∀ (a b : List Typ), Typ.cntL (a ++ b) = Typ.cntL a + Typ.cntL b
  | [], b => by simp [Typ.cntL]
  | x :: a, b => by simp only [List.cons_append, Typ.cntL, Typ.cntL_app a]; omega
theorem Typ.markL_app : ∀ (a b : List Typ) (k : Int), Typ.markL (a ++ b) k = Typ.markL a k ++ Typ.markL b (k + (Typ.cntL a : Nat))
  | [], b, k => by simp [Typ.markL, Typ.cntL]
  | x :: a, b, k => by simp only [List.cons_append, Typ.markL, Typ.markL_app a, Typ.cntL, List.cons.injEq, true_and]; congr 2; omega
theorem Typ.mark_split (l : List Typ) (i : Nat) (h : i < l.length) : l = l.take i ++ l[i] :: l.drop (i + 1) := by rw [← List.drop_eq_getElem_cons h, List.take_append_drop]
theorem Typ.markL_get (l : List Typ) (k : Int) (i : Nat) (h : i < l.length) : (Typ.markL l k)[i]? = some ((l[i]).mark (k + (Typ.cntL (l.take i) : Nat))) := by
  conv => lhs; rw [Typ.mark_split l i h]
  rw [Typ.markL_app, List.getElem?_append_right (by rw [Typ.markL_len]; simp; omega)]
  simp [Typ.markL, Typ.markL_len, Nat.min_eq_left (Nat.le_of_lt h)]
theorem Typ.cntL_take (l : List Typ) (i : Nat) (h : i < l.length) : Typ.cntL (l.take (i + 1)) = Typ.cntL (l.take i) + (l[i]).cnt := by
  rw [List.take_succ_eq_append_getElem h, Typ.cntL_app]; simp [Typ.cntL]
theorem Typ.cntL_le (l : List Typ) (i : Nat) : Typ.cntL (l.take i) ≤ Typ.cntL l := by
  conv => rhs; rw [← List.take_append_drop i l, Typ.cntL_app]
  omega
theorem Typ.cntL_mem {l : List Typ} {x : Typ} (h : x ∈ l) : x.cnt ≤ Typ.cntL l := by
  obtain ⟨i, hi, rfl⟩ := List.getElem_of_mem h
  have h1 := Typ.cntL_take l i hi
  have h2 := Typ.cntL_le l (i + 1)
  omega
end Go.Fw
namespace Go.Proofs.YtcidmkcicagpaaaGreat
open Go.Fw
open Nat (reduceLT reduceEqDiff reduceAdd reduceMul reduceSub reduceLeDiff)
open List (reduceReplicate)
end Go.Proofs.YtcidmkcicagpaaaGreat
namespace Go.Fw
open Go.Proofs.YtcidmkcicagpaaaGreat
def Constructor.cnt : Constructor → Nat
  | .mk x0 x1 => 1 + Typ.cntL x1
def Constructor.cntL : List Constructor → Nat
  | [] => 0
  | c :: cs => c.cnt + Constructor.cntL cs
def Constructor.mark : Constructor → Int → Constructor
  | .mk x0 x1, k => .mk (mText k) (Typ.markL x1 (k + 1))
def Constructor.markL : List Constructor → Int → List Constructor
  | [], _ => []
  | c :: cs, k => c.mark k :: Constructor.markL cs (k + (c.cnt : Nat))
theorem Constructor.markL_len : ∀ (l : List Constructor) (k : Int), (Constructor.markL l k).length = l.length
  | [], _ => by simp [Constructor.markL]
  | _ :: l, k => by simp [Constructor.markL, Constructor.markL_len l]
theorem Constructor.cntL_app : ∀ (a b : List Constructor), Constructor.cntL (a ++ b) = Constructor.cntL a + Constructor.cntL b
  | [], b => by simp [Constructor.cntL]
  | x :: a, b => by simp only [List.cons_append, Constructor.cntL, Constructor.cntL_app a]; omega
theorem Constructor.markL_app : ∀ (a b : List Constructor) (k : Int), Constructor.markL (a ++ b) k = Constructor.markL a k ++ Constructor.markL b (k + (Constructor.cntL a : Nat))
  | [], b, k => by simp [Constructor.markL, Constructor.cntL]
  | x :: a, b, k => by simp only [List.cons_append, Constructor.markL, Constructor.markL_app a, Constructor.cntL, List.cons.injEq, true_and]; congr 2; omega
theorem Constructor.mark_split (l : List Constructor) (i : Nat) (h : i < l.length) : l = l.take i ++ l[i] :: l.drop (i + 1) := by rw [← List.drop_eq_getElem_cons h, List.take_append_drop]
theorem Constructor.markL_get (l : List Constructor) (k : Int) (i : Nat) (h : i < l.length) : (Constructor.markL l k)[i]? = some ((l[i]).mark (k + (Constructor.cntL (l.take i) : Nat))) := by
  conv => lhs; rw [Constructor.mark_split l i h]
  rw [Constructor.markL_app, List.getElem?_append_right (by rw [Constructor.markL_len]; simp; omega)]
  simp [Constructor.markL, Constructor.markL_len, Nat.min_eq_left (Nat.le_of_lt h)]
theorem Constructor.cntL_take (l : List Constructor) (i : Nat) (h : i < l.length) : Constructor.cntL (l.take (i + 1)) = Constructor.cntL (l.take i) + (l[i]).cnt := by
  rw [List.take_succ_eq_append_getElem h, Constructor.cntL_app]; simp [Constructor.cntL]
theorem Constructor.cntL_le (l : List Constructor) (i : Nat) : Constructor.cntL (l.take i) ≤ Constructor.cntL l := by
  conv => rhs; rw [← List.take_append_drop i l, Constructor.cntL_app]
  omega
theorem Constructor.cntL_mem {l : List Constructor} {x : Constructor} (h : x ∈ l) : x.cnt ≤ Constructor.cntL l := by
  obtain ⟨i, hi, rfl⟩ := List.getElem_of_mem h
  have h1 := Constructor.cntL_take l i hi
  have h2 := Constructor.cntL_le l (i + 1)
  omega
end Go.Fw
namespace Go.Proofs.YtcidmkcicagpaaaGreat
open Go.Fw
open Nat (reduceLT reduceEqDiff reduceAdd reduceMul reduceSub reduceLeDiff)
open List (reduceReplicate)
end Go.Proofs.YtcidmkcicagpaaaGreat
namespace Go.Fw
open Go.Proofs.YtcidmkcicagpaaaGreat
def Dat.cnt : Dat → Nat
  | .mk x0 x1 => 1 + Constructor.cntL x1
def Dat.cntL : List Dat → Nat
  | [] => 0
  | c :: cs => c.cnt + Dat.cntL cs
def Dat.mark : Dat → Int → Dat
  | .mk x0 x1, k => .mk (mText k) (Constructor.markL x1 (k + 1))
def Dat.markL : List Dat → Int → List Dat
  | [], _ => []
  | c :: cs, k => c.mark k :: Dat.markL cs (k + (c.cnt : Nat))
theorem Dat.markL_len : ∀ (l : List Dat) (k : Int), (Dat.markL l k).length = l.length
  | [], _ => by simp [Dat.markL]
  | _ :: l, k => by simp [Dat.markL, Dat.markL_len l]
theorem Dat.cntL_app : ∀ (a b : List Dat), Dat.cntL (a ++ b) = Dat.cntL a + Dat.cntL b
  | [], b => by simp [Dat.cntL]
  | x :: a, b => by simp only [List.cons_append, Dat.cntL, Dat.cntL_app a]; omega
theorem Dat.markL_app : ∀ (a b : List Dat) (k : Int), Dat.markL (a ++ b) k = Dat.markL a k ++ Dat.markL b (k + (Dat.cntL a : Nat))
  | [], b, k => by simp [Dat.markL, Dat.cntL]
  | x :: a, b, k => by simp only [List.cons_append, Dat.markL, Dat.markL_app a, Dat.cntL, List.cons.injEq, true_and]; congr 2; omega
theorem Dat.mark_split (l : List Dat) (i : Nat) (h : i < l.length) : l = l.take i ++ l[i] :: l.drop (i + 1) := by rw [← List.drop_eq_getElem_cons h, List.take_append_drop]
theorem Dat.markL_get (l : List Dat) (k : Int) (i : Nat) (h : i < l.length) : (Dat.markL l k)[i]? = some ((l[i]).mark (k + (Dat.cntL (l.take i) : Nat))) := by
  conv => lhs; rw [Dat.mark_split l i h]
  rw [Dat.markL_app, List.getElem?_append_right (by rw [Dat.markL_len]; simp; omega)]
  simp [Dat.markL, Dat.markL_len, Nat.min_eq_left (Nat.le_of_lt h)]
theorem Dat.cntL_take (l : List Dat) (i : Nat) (h : i < l.length) : Dat.cntL (l.take (i + 1)) = Dat.cntL (l.take i) + (l[i]).cnt := by
  rw [List.take_succ_eq_append_getElem h, Dat.cntL_app]; simp [Dat.cntL]
theorem Dat.cntL_le (l : List Dat) (i : Nat) : Dat.cntL (l.take i) ≤ Dat.cntL l := by
  conv => rhs; rw [← List.take_append_drop i l, Dat.cntL_app]
  omega
theorem Dat.cntL_mem {l : List Dat} {x : Dat} (h : x ∈ l) : x.cnt ≤ Dat.cntL l := by
  obtain ⟨i, hi, rfl⟩ := List.getElem_of_mem h
  have h1 := Dat.cntL_take l i hi
  have h2 := Dat.cntL_le l (i + 1)
  omega
end Go.Fw
namespace Go.Proofs.YtcidmkcicagpaaaGreat
open Go.Fw
open Nat (reduceLT reduceEqDiff reduceAdd reduceMul reduceSub reduceLeDiff)
open List (reduceReplicate)
end Go.Proofs.YtcidmkcicagpaaaGreat
namespace Go.Fw
open Go.Proofs.YtcidmkcicagpaaaGreat
mutual
def Term.cnt : Term → Nat
  | .mk x0 x1 x2 (.mk x3_0 x3_1 x3_2) x4 x5 => 1 + 1 + 1 + 1 + 1 + Typ.cntL x3_2 + x4.length + Term.cntL x5
def Term.cntL : List Term → Nat
  | [] => 0
  | c :: cs => c.cnt + Term.cntL cs
end
mutual
def Term.mark : Term → Int → Term
  | .mk x0 x1 x2 (.mk x3_0 x3_1 x3_2) x4 x5, k => .mk k (k + 1) (mText ((k + 1) + 1)) (.mk (((k + 1) + 1) + 1) (mText ((((k + 1) + 1) + 1) + 1)) (Typ.markL x3_2 (((((k + 1) + 1) + 1) + 1) + 1))) (markStr x4 ((((((k + 1) + 1) + 1) + 1) + 1) + (Typ.cntL x3_2 : Nat))) (Term.markL x5 (((((((k + 1) + 1) + 1) + 1) + 1) + (Typ.cntL x3_2 : Nat)) + (x4.length : Nat)))
def Term.markL : List Term → Int → List Term
  | [], _ => []
  | c :: cs, k => c.mark k :: Term.markL cs (k + (c.cnt : Nat))
end
theorem Term.markL_len : ∀ (l : List Term) (k : Int), (Term.markL l k).length = l.length
  | [], _ => by simp [Term.markL]
  | _ :: l, k => by simp [Term.markL, Term.markL_len l]
theorem Term.cntL_app : ∀ (a b : List Term), Term.cntL (a ++ b) = Term.cntL a + Term.cntL b
  | [], b => by simp [Term.cntL]
  | x :: a, b => by simp only [List.cons_append, Term.cntL, Term.cntL_app a]; omega
theorem Term.markL_app : ∀ (a b : List Term) (k : Int), Term.markL (a ++ b) k = Term.markL a k ++ Term.markL b (k + (Term.cntL a : Nat))
  | [], b, k => by simp [Term.markL, Term.cntL]
  | x :: a, b, k => by simp only [List.cons_append, Term.markL, Term.markL_app a, Term.cntL, List.cons.injEq, true_and]; congr 2; omega
theorem Term.mark_split (l : List Term) (i : Nat) (h : i < l.length) : l = l.take i ++ l[i] :: l.drop (i + 1) := by rw [← List.drop_eq_getElem_cons h, List.take_append_drop]
theorem Term.markL_get (l : List Term) (k : Int) (i : Nat) (h : i < l.length) : (Term.markL l k)[i]? = some ((l[i]).mark (k + (Term.cntL (l.take i) : Nat))) := by
  conv => lhs; rw [Term.mark_split l i h]
  rw [Term.markL_app, List.getElem?_append_right (by rw [Term.markL_len]; simp; omega)]
  simp [Term.markL, Term.markL_len, Nat.min_eq_left (Nat.le_of_lt h)]
theorem Term.cntL_take (l : List Term) (i : Nat) (h : i < l.length) : Term.cntL (l.take (i + 1)) = Term.cntL (l.take i) + (l[i]).cnt := by
  rw [List.take_succ_eq_append_getElem h, Term.cntL_app]; simp [Term.cntL]
theorem Term.cntL_le (l : List Term) (i : Nat) : Term.cntL (l.take i) ≤ Term.cntL l := by
  conv => rhs; rw [← List.take_append_drop i l, Term.cntL_app]
  omega
theorem Term.cntL_mem {l : List Term} {x : Term} (h : x ∈ l) : x.cnt ≤ Term.cntL l := by
  obtain ⟨i, hi, rfl⟩ := List.getElem_of_mem h
  have h1 := Term.cntL_take l i hi
  have h2 := Term.cntL_le l (i + 1)
  omega
end Go.Fw
namespace Go.Proofs.YtcidmkcicagpaaaGreat
open Go.Fw
open Nat (reduceLT reduceEqDiff reduceAdd reduceMul reduceSub reduceLeDiff)
open List (reduceReplicate)
end Go.Proofs.YtcidmkcicagpaaaGreat
namespace Go.Fw
open Go.Proofs.YtcidmkcicagpaaaGreat
def Def.cnt : Def → Nat
  | .mk x0 (.mk x1_0 x1_1 x1_2) (.mk x2_0 x2_1 x2_2 (.mk x2_3_0 x2_3_1 x2_3_2) x2_4 x2_5) => 1 + 1 + 1 + Typ.cntL x1_2 + 1 + 1 + 1 + 1 + 1 + Typ.cntL x2_3_2 + x2_4.length + Term.cntL x2_5
def Def.cntL : List Def → Nat
  | [] => 0
  | c :: cs => c.cnt + Def.cntL cs
def Def.mark : Def → Int → Def
  | .mk x0 (.mk x1_0 x1_1 x1_2) (.mk x2_0 x2_1 x2_2 (.mk x2_3_0 x2_3_1 x2_3_2) x2_4 x2_5), k => .mk (mText k) (.mk (k + 1) (mText ((k + 1) + 1)) (Typ.markL x1_2 (((k + 1) + 1) + 1))) (.mk ((((k + 1) + 1) + 1) + (Typ.cntL x1_2 : Nat)) (((((k + 1) + 1) + 1) + (Typ.cntL x1_2 : Nat)) + 1) (mText ((((((k + 1) + 1) + 1) + (Typ.cntL x1_2 : Nat)) + 1) + 1)) (.mk (((((((k + 1) + 1) + 1) + (Typ.cntL x1_2 : Nat)) + 1) + 1) + 1) (mText ((((((((k + 1) + 1) + 1) + (Typ.cntL x1_2 : Nat)) + 1) + 1) + 1) + 1)) (Typ.markL x2_3_2 (((((((((k + 1) + 1) + 1) + (Typ.cntL x1_2 : Nat)) + 1) + 1) + 1) + 1) + 1))) (markStr x2_4 ((((((((((k + 1) + 1) + 1) + (Typ.cntL x1_2 : Nat)) + 1) + 1) + 1) + 1) + 1) + (Typ.cntL x2_3_2 : Nat))) (Term.markL x2_5 (((((((((((k + 1) + 1) + 1) + (Typ.cntL x1_2 : Nat)) + 1) + 1) + 1) + 1) + 1) + (Typ.cntL x2_3_2 : Nat)) + (x2_4.length : Nat))))
def Def.markL : List Def → Int → List Def
  | [], _ => []
  | c :: cs, k => c.mark k :: Def.markL cs (k + (c.cnt : Nat))
theorem Def.markL_len : ∀ (l : List Def) (k : Int), (Def.markL l k).length = l.length
  | [], _ => by simp [Def.markL]
  | _ :: l, k => by simp [Def.markL, Def.markL_len l]
theorem Def.cntL_app : ∀ (a b : List Def), Def.cntL (a ++ b) = Def.cntL a + Def.cntL b
  | [], b => by simp [Def.cntL]
  | x :: a, b => by simp only [List.cons_append, Def.cntL, Def.cntL_app a]; omega
theorem Def.markL_app : ∀ (a b : List Def) (k : Int), Def.markL (a ++ b) k = Def.markL a k ++ Def.markL b (k + (Def.cntL a : Nat))
  | [], b, k => by simp [Def.markL, Def.cntL]
  | x :: a, b, k => by simp only [List.cons_append, Def.markL, Def.markL_app a, Def.cntL, List.cons.injEq, true_and]; congr 2; omega
theorem Def.mark_split (l : List Def) (i : Nat) (h : i < l.length) : l = l.take i ++ l[i] :: l.drop (i + 1) := by rw [← List.drop_eq_getElem_cons h, List.take_append_drop]
theorem Def.markL_get (l : List Def) (k : Int) (i : Nat) (h : i < l.length) : (Def.markL l k)[i]? = some ((l[i]).mark (k + (Def.cntL (l.take i) : Nat))) := by
  conv => lhs; rw [Def.mark_split l i h]
  rw [Def.markL_app, List.getElem?_append_right (by rw [Def.markL_len]; simp; omega)]
  simp [Def.markL, Def.markL_len, Nat.min_eq_left (Nat.le_of_lt h)]
theorem Def.cntL_take (l : List Def) (i : Nat) (h : i < l.length) : Def.cntL (l.take (i + 1)) = Def.cntL (l.take i) + (l[i]).cnt := by
  rw [List.take_succ_eq_append_getElem h, Def.cntL_app]; simp [Def.cntL]
theorem Def.cntL_le (l : List Def) (i : Nat) : Def.cntL (l.take i) ≤ Def.cntL l := by
  conv => rhs; rw [← List.take_append_drop i l, Def.cntL_app]
  omega
theorem Def.cntL_mem {l : List Def} {x : Def} (h : x ∈ l) : x.cnt ≤ Def.cntL l := by
  obtain ⟨i, hi, rfl⟩ := List.getElem_of_mem h
  have h1 := Def.cntL_take l i hi
  have h2 := Def.cntL_le l (i + 1)
  omega
end Go.Fw
namespace Go.Proofs.YtcidmkcicagpaaaGreat
open Go.Fw
open Nat (reduceLT reduceEqDiff reduceAdd reduceMul reduceSub reduceLeDiff)
open List (reduceReplicate)
end Go.Proofs.YtcidmkcicagpaaaGreat
namespace Go.Fw
open Go.Proofs.YtcidmkcicagpaaaGreat
def Prg.cnt : Prg → Nat
  | .mk x0 x1 => Dat.cntL x0 + Def.cntL x1
def Prg.cntL : List Prg → Nat
  | [] => 0
  | c :: cs => c.cnt + Prg.cntL cs
def Prg.mark : Prg → Int → Prg
  | .mk x0 x1, k => .mk (Dat.markL x0 k) (Def.markL x1 (k + (Dat.cntL x0 : Nat)))
def Prg.markL : List Prg → Int → List Prg
  | [], _ => []
  | c :: cs, k => c.mark k :: Prg.markL cs (k + (c.cnt : Nat))
theorem Prg.markL_len : ∀ (l : List Prg) (k : Int), (Prg.markL l k).length = l.length
  | [], _ => by simp [Prg.markL]
  | _ :: l, k => by simp [Prg.markL, Prg.markL_len l]
theorem Prg.cntL_app : ∀ (a b : List Prg), Prg.cntL (a ++ b) = Prg.cntL a + Prg.cntL b
  | [], b => by simp [Prg.cntL]
  | x :: a, b => by simp only [List.cons_append, Prg.cntL, Prg.cntL_app a]; omega
theorem Prg.markL_app : ∀ (a b : List Prg) (k : Int), Prg.markL (a ++ b) k = Prg.markL a k ++ Prg.markL b (k + (Prg.cntL a : Nat))
  | [], b, k => by simp [Prg.markL, Prg.cntL]
  | x :: a, b, k => by simp only [List.cons_append, Prg.markL, Prg.markL_app a, Prg.cntL, List.cons.injEq, true_and]; congr 2; omega
theorem Prg.mark_split (l : List Prg) (i : Nat) (h : i < l.length) : l = l.take i ++ l[i] :: l.drop (i + 1) := by rw [← List.drop_eq_getElem_cons h, List.take_append_drop]
theorem Prg.markL_get (l : List Prg) (k : Int) (i : Nat) (h : i < l.length) : (Prg.markL l k)[i]? = some ((l[i]).mark (k + (Prg.cntL (l.take i) : Nat))) := by
  conv => lhs; rw [Prg.mark_split l i h]
  rw [Prg.markL_app, List.getElem?_append_right (by rw [Prg.markL_len]; simp; omega)]
  simp [Prg.markL, Prg.markL_len, Nat.min_eq_left (Nat.le_of_lt h)]
theorem Prg.cntL_take (l : List Prg) (i : Nat) (h : i < l.length) : Prg.cntL (l.take (i + 1)) = Prg.cntL (l.take i) + (l[i]).cnt := by
  rw [List.take_succ_eq_append_getElem h, Prg.cntL_app]; simp [Prg.cntL]
theorem Prg.cntL_le (l : List Prg) (i : Nat) : Prg.cntL (l.take i) ≤ Prg.cntL l := by
  conv => rhs; rw [← List.take_append_drop i l, Prg.cntL_app]
  omega
theorem Prg.cntL_mem {l : List Prg} {x : Prg} (h : x ∈ l) : x.cnt ≤ Prg.cntL l := by
  obtain ⟨i, hi, rfl⟩ := List.getElem_of_mem h
  have h1 := Prg.cntL_take l i hi
  have h2 := Prg.cntL_le l (i + 1)
  omega
end Go.Fw
namespace Go.Proofs.YtcidmkcicagpaaaGreat
open Go.Fw
open Nat (reduceLT reduceEqDiff reduceAdd reduceMul reduceSub reduceLeDiff)
open List (reduceReplicate)
theorem markStringS (l : List ByteArray) (k : Int) (h0 : 0 ≤ k) (h1 : k + (l.length : Nat) ≤ 1099511627776) (u : Value) (F : List Nat) : SpG Tryz.prog 81 [.sc u, I k] [⟨u, strs l, F⟩] [strs (markStr l k)] (I (k + (l.length : Nat))) := by
  have hdl : (l.map fun s => [S s]).length = l.length := by simp
  unfold strs
  refine SpM.of_vc [] [.tmp 4] Tryz.func81 rfl (by kernel_rfl) Tryz.ntmps81 rfl (by simp) ?_ ?_ ?_ ?_ u F
  · simp [markStr_len]
  · intro r hr; obtain ⟨x, _, rfl⟩ := List.mem_map.1 hr; rfl
  · intro h T
    have hn : l = [] := by simpa using h
    subst hn
    simp only [go_sem, ↓reduceIte, reduceCtorEq, reduceLT, reduceEqDiff, Nat.reduceBEq, reduceAdd, reduceMul, reduceSub, reduceLeDiff, reduceReplicate]
    refine loop_count 5 0 (fun _ => Fw.InvT 20 [(0, .sl 1 []), (1, I k)] fun _ _ T' => T' = T) rfl ⟨rfl, by simp [envOf, setE], rfl⟩ ?_
    rintro i ⟨env, H, n, nt, T'⟩ hi h5 ⟨rfl, hfs, hT⟩
    simp only [List.forall_mem_cons] at h5 hfs hT
    obtain ⟨e0, e1, -⟩ := hfs
    have hi0 : i = 0 := by omega
    subst hi0; subst hT
    simp only [h5, e0, e1, go_sem, ↓reduceIte, reduceCtorEq, reduceLT, reduceEqDiff, Nat.reduceBEq, reduceAdd, reduceMul, reduceSub, reduceLeDiff, reduceReplicate, Int.lt_irrefl, decide_false, retN_ret, retN_normal, resD_one, resOne]
    simp
  · intro _ e cells T hcs0
    simp only [hdl, go_sem, ↓reduceIte, reduceCtorEq, reduceLT, reduceEqDiff, Nat.reduceBEq, reduceAdd, reduceMul, reduceSub, reduceLeDiff, reduceReplicate]
    refine loop_count 5 l.length (fun i => Fw.InvT 20 [(0, .ms 0 0 l.length), (1, I (k + i))] fun H n T' => n = bump noN 0 ∧ T' = T ∧ ∃ cs, OL O1 (((markStr (l.take i) k) ++ l.drop i).map fun s => [S s]).flatten cs T' ∧ H 0 = some ⟨0, e, 1, cs, none⟩) rfl ⟨rfl, by simp [envOf, setE], rfl, rfl, cells, by simpa [markStr] using hcs0, by simp [upd]⟩ ?_
    rintro i ⟨env, H, n, nt, T'⟩ hi h5 ⟨rfl, hfs, hn, hT, cs, hcs, hH⟩
    simp only [List.forall_mem_cons] at h5 hfs hn hT hcs hH
    subst hn; subst hT
    obtain ⟨e0, e1, -⟩ := hfs
    simp only [h5, e0, e1, go_sem, ↓reduceIte, reduceCtorEq, reduceLT, reduceEqDiff, Nat.reduceBEq, reduceAdd, reduceMul, reduceSub, reduceLeDiff, reduceReplicate]
    refine condK_split (fun h => ?_) (fun h => ?_)
    · have hlt : i < l.length := by simpa using h
      have hkl : ((i : Int) < (l.length : Int)) = True := eq_true (by omega)
      rw [List.drop_eq_getElem_cons hlt, List.map_append, List.map_cons, List.flatten_append, List.flatten_cons, List.cons_append, List.nil_append] at hcs
      obtain ⟨c1, d1, T1, T2, rfl, hTT, o1, o2⟩ := OL.split _ hcs
      obtain ⟨c2, rfl, o3⟩ := ol_sc.1 o2
      have hc1 : c1.length = i := by
        rw [o1.len, flatten_len (sz := 1) (by intro r hr; obtain ⟨x, _, rfl⟩ := List.mem_map.1 hr; rfl)]; simp [markStr_len]; omega
      have t0 : ∀ r : List D, (c1 ++ r).take i = c1 := fun r => by rw [← hc1, List.take_left]
      have d0 : ∀ r : List D, (c1 ++ r).drop (i + 1) = r.drop 1 := fun r => by rw [← hc1, ← List.drop_drop, List.drop_left]
      have w1 : IntKind.i64.wrap (k + i + 1) = k + i + 1 := Go.IntWalk.i64_in _ (by omega)
      simp only [h, h5, e0, e1, hH, hkl, Nat.mul_one, go_sem, ↓reduceIte, reduceCtorEq, reduceLT, reduceEqDiff, Nat.reduceBEq, reduceAdd, reduceMul, reduceSub, reduceLeDiff, reduceReplicate]
      refine callK_intro _ (markText (k + i) (by omega) (by omega)) (by simp) ?_
      simp only [h5, e0, e1, hH, hkl, w1, Nat.mul_one, go_sem, ↓reduceIte, reduceCtorEq, reduceLT, reduceEqDiff, Nat.reduceBEq, reduceAdd, reduceMul, reduceSub, reduceLeDiff, reduceReplicate]
      refine ⟨by simp; omega, ?_⟩
      refine nextC_mk (by simp [setE, wrap_succ i (by omega)]) hlt ⟨rfl, ?_, rfl, rfl, c1 ++ (.sc (.string (mText (k + i))) :: c2), ?_, ?_⟩
      · simp only [List.forall_mem_cons, setE, ↓reduceIte, Nat.reduceEqDiff, e0, List.not_mem_nil, false_implies, implies_true, and_true, true_and]
        exact congrArg (fun n => D.sc (.int .i64 n)) (by omega)
      · have : (((markStr (l.take (i + 1)) k) ++ l.drop (i + 1)).map fun s => [S s]).flatten = ((markStr (l.take i) k).map fun s => [S s]).flatten ++ (S (mText (k + i)) :: ((l.drop (i + 1)).map fun s => [S s]).flatten) := by
          rw [List.take_succ_eq_append_getElem hlt, markStr_app]
          simp [markStr, Nat.min_eq_left (Nat.le_of_lt hlt)]
        rw [this, hTT]
        exact o1.app (OL.sc' o3)
      · simp only [upd, ↓reduceIte, t0, d0, List.append_assoc, List.cons_append, List.nil_append, List.drop_succ_cons, List.drop_zero]
    · have hi' : i = l.length := by simp at h; omega
      subst hi'
      simp only [h, e1, go_sem, ↓reduceIte, reduceCtorEq, reduceLT, reduceEqDiff, Nat.reduceBEq, reduceAdd, reduceMul, reduceSub, reduceLeDiff, reduceReplicate, retM_ret, retM_normal, resD_one, resOne]
      first | exact ⟨_, hH, rfl, rfl, rfl, by simpa using hcs, rfl⟩ | exact ⟨rfl, ⟨_, hH, rfl, rfl, rfl, by simpa using hcs, rfl⟩⟩
theorem markInt64S (l : List Int) (k : Int) (h0 : 0 ≤ k) (h1 : k + (l.length : Nat) ≤ 1099511627776) (u : Value) (F : List Nat) : SpG Tryz.prog 19 [.sc u, I k] [⟨u, ints l, F⟩] [ints (markInt l k)] (I (k + (l.length : Nat))) := by
  have hdl : (l.map fun s => [I s]).length = l.length := by simp
  unfold ints
  refine SpM.of_vc [] [.tmp 4] Tryz.func19 rfl (by kernel_rfl) Tryz.ntmps19 rfl (by simp) ?_ ?_ ?_ ?_ u F
  · simp [markInt_len]
  · intro r hr; obtain ⟨x, _, rfl⟩ := List.mem_map.1 hr; rfl
  · intro h T
    have hn : l = [] := by simpa using h
    subst hn
    simp only [go_sem, ↓reduceIte, reduceCtorEq, reduceLT, reduceEqDiff, Nat.reduceBEq, reduceAdd, reduceMul, reduceSub, reduceLeDiff, reduceReplicate]
    refine loop_count 5 0 (fun _ => Fw.InvT 19 [(0, .sl 1 []), (1, I k)] fun _ _ T' => T' = T) rfl ⟨rfl, by simp [envOf, setE], rfl⟩ ?_
    rintro i ⟨env, H, n, nt, T'⟩ hi h5 ⟨rfl, hfs, hT⟩
    simp only [List.forall_mem_cons] at h5 hfs hT
    obtain ⟨e0, e1, -⟩ := hfs
    have hi0 : i = 0 := by omega
    subst hi0; subst hT
    simp only [h5, e0, e1, go_sem, ↓reduceIte, reduceCtorEq, reduceLT, reduceEqDiff, Nat.reduceBEq, reduceAdd, reduceMul, reduceSub, reduceLeDiff, reduceReplicate, Int.lt_irrefl, decide_false, retN_ret, retN_normal, resD_one, resOne]
    simp
  · intro _ e cells T hcs0
    simp only [hdl, go_sem, ↓reduceIte, reduceCtorEq, reduceLT, reduceEqDiff, Nat.reduceBEq, reduceAdd, reduceMul, reduceSub, reduceLeDiff, reduceReplicate]
    refine loop_count 5 l.length (fun i => Fw.InvT 19 [(0, .ms 0 0 l.length), (1, I (k + i))] fun H n T' => n = bump noN 0 ∧ T' = T ∧ ∃ cs, OL O1 (((markInt (l.take i) k) ++ l.drop i).map fun s => [I s]).flatten cs T' ∧ H 0 = some ⟨0, e, 1, cs, none⟩) rfl ⟨rfl, by simp [envOf, setE], rfl, rfl, cells, by simpa [markInt] using hcs0, by simp [upd]⟩ ?_
    rintro i ⟨env, H, n, nt, T'⟩ hi h5 ⟨rfl, hfs, hn, hT, cs, hcs, hH⟩
    simp only [List.forall_mem_cons] at h5 hfs hn hT hcs hH
    subst hn; subst hT
    obtain ⟨e0, e1, -⟩ := hfs
    simp only [h5, e0, e1, go_sem, ↓reduceIte, reduceCtorEq, reduceLT, reduceEqDiff, Nat.reduceBEq, reduceAdd, reduceMul, reduceSub, reduceLeDiff, reduceReplicate]
    refine condK_split (fun h => ?_) (fun h => ?_)
    · have hlt : i < l.length := by simpa using h
      have hkl : ((i : Int) < (l.length : Int)) = True := eq_true (by omega)
      rw [List.drop_eq_getElem_cons hlt, List.map_append, List.map_cons, List.flatten_append, List.flatten_cons, List.cons_append, List.nil_append] at hcs
      obtain ⟨c1, d1, T1, T2, rfl, hTT, o1, o2⟩ := OL.split _ hcs
      obtain ⟨c2, rfl, o3⟩ := ol_sc.1 o2
      have hc1 : c1.length = i := by
        rw [o1.len, flatten_len (sz := 1) (by intro r hr; obtain ⟨x, _, rfl⟩ := List.mem_map.1 hr; rfl)]; simp [markInt_len]; omega
      have t0 : ∀ r : List D, (c1 ++ r).take i = c1 := fun r => by rw [← hc1, List.take_left]
      have d0 : ∀ r : List D, (c1 ++ r).drop (i + 1) = r.drop 1 := fun r => by rw [← hc1, ← List.drop_drop, List.drop_left]
      have w1 : IntKind.i64.wrap (k + i + 1) = k + i + 1 := Go.IntWalk.i64_in _ (by omega)
      simp only [h, h5, e0, e1, hH, hkl, Nat.mul_one, go_sem, ↓reduceIte, reduceCtorEq, reduceLT, reduceEqDiff, Nat.reduceBEq, reduceAdd, reduceMul, reduceSub, reduceLeDiff, reduceReplicate]
      simp only [w1]
      refine ⟨by simp; omega, ?_⟩
      refine nextC_mk (by simp [setE, wrap_succ i (by omega)]) hlt ⟨rfl, ?_, rfl, rfl, c1 ++ (.sc (.int .i64 (k + i)) :: c2), ?_, ?_⟩
      · simp only [List.forall_mem_cons, setE, ↓reduceIte, Nat.reduceEqDiff, e0, List.not_mem_nil, false_implies, implies_true, and_true, true_and]
        exact congrArg (fun n => D.sc (.int .i64 n)) (by omega)
      · have : (((markInt (l.take (i + 1)) k) ++ l.drop (i + 1)).map fun s => [I s]).flatten = ((markInt (l.take i) k).map fun s => [I s]).flatten ++ (I (k + i) :: ((l.drop (i + 1)).map fun s => [I s]).flatten) := by
          rw [List.take_succ_eq_append_getElem hlt, markInt_app]
          simp [markInt, Nat.min_eq_left (Nat.le_of_lt hlt)]
        rw [this, hTT]
        exact o1.app (OL.sc' o3)
      · simp only [upd, ↓reduceIte, t0, d0, List.append_assoc, List.cons_append, List.nil_append, List.drop_succ_cons, List.drop_zero]
    · have hi' : i = l.length := by simp at h; omega
      subst hi'
      simp only [h, e1, go_sem, ↓reduceIte, reduceCtorEq, reduceLT, reduceEqDiff, Nat.reduceBEq, reduceAdd, reduceMul, reduceSub, reduceLeDiff, reduceReplicate, retM_ret, retM_normal, resD_one, resOne]
      first | exact ⟨_, hH, rfl, rfl, rfl, by simpa using hcs, rfl⟩ | exact ⟨rfl, ⟨_, hH, rfl, rfl, rfl, by simpa using hcs, rfl⟩⟩
theorem heldInt64S (l : List Int) (k : Int) (h0 : 0 ≤ k) (h1 : k + (l.length : Nat) ≤ 1099511627776) : Sp Tryz.prog 20 [ints (markInt l k), I k] (I (k + (l.length : Nat))) := by
  have hml : (markInt l k).length = l.length := markInt_len l k
  refine Sp.of_vc [] [.tmp 4] Tryz.func20 rfl (by kernel_rfl) Tryz.ntmps20 rfl (by simp) ?_
  simp only [hml, go_sem, ↓reduceIte, reduceCtorEq, reduceLT, reduceEqDiff, Nat.reduceBEq, reduceAdd, reduceMul, reduceSub, reduceLeDiff, reduceReplicate]
  refine loop_count 5 l.length (fun i => Fw.Inv 21 [(0, ints (markInt l k)), (1, I (k + i))] True) rfl ⟨rfl, by simp [ints, envOf, setE], trivial⟩ ?_
  rintro i ⟨env, H, n, nt, T⟩ hi h5 ⟨rfl, hfs, -⟩
  simp only [List.forall_mem_cons, ints] at h5 hfs
  obtain ⟨e0, e1, -⟩ := hfs
  simp only [h5, e0, e1, hml, go_sem, ↓reduceIte, reduceCtorEq, reduceLT, reduceEqDiff, Nat.reduceBEq, reduceAdd, reduceMul, reduceSub, reduceLeDiff, reduceReplicate]
  refine condK_split (fun h => ?_) (fun h => ?_)
  · have hlt : i < l.length := by simpa using h
    have g0 : ((markInt l k).map fun s => [I s])[i]? = some [I (k + i)] := by rw [List.getElem?_map, markInt_get l k i hlt]; rfl
    have w1 : IntKind.i64.wrap (k + i + 1) = k + i + 1 := Go.IntWalk.i64_in _ (by omega)
    simp only [h, h5, e0, e1, g0, w1, go_sem, ↓reduceIte, reduceCtorEq, reduceLT, reduceEqDiff, Nat.reduceBEq, reduceAdd, reduceMul, reduceSub, reduceLeDiff, reduceReplicate, bne_self_eq_false, beq_self_eq_true]

    refine nextC_mk (by simp [setE, wrap_succ i (by omega)]) hlt ⟨rfl, ?_, trivial⟩
    simp only [List.forall_mem_cons, setE, ↓reduceIte, Nat.reduceEqDiff, e0, ints, List.not_mem_nil, false_implies, implies_true, and_true, true_and]
    exact congrArg (fun n => D.sc (.int .i64 n)) (by omega)
  · have hi' : i = l.length := by simp at h; omega
    subst hi'
    simp only [h, e1, go_sem, ↓reduceIte, reduceCtorEq, reduceLT, reduceEqDiff, Nat.reduceBEq, reduceAdd, reduceMul, reduceSub, reduceLeDiff, reduceReplicate]
    exact Fz.int rfl
theorem markTypeS (l : List Typ) (k : Int) (h0 : 0 ≤ k) (h1 : k + (Typ.cntL l : Nat) ≤ 1099511627776) (u : Value) (F : List Nat) : SpG Tryz.prog 80 [.sc u, I k] [⟨u, Typ.sl l, F⟩] [Typ.sl (Typ.markL l k)] (I (k + (Typ.cntL l : Nat))) := by
  have hdl : (Typ.dsL l).length = l.length := Typ.dsL_len l
  have hLL : l.length ≤ Typ.cntL l := by
    clear h1 h0 hdl
    induction l with
    | nil => simp
    | cons c l ih => obtain ⟨a0, a1, a2⟩ := c; simp only [List.length_cons, Typ.cntL, Typ.cnt]; omega
  unfold Typ.sl
  refine SpM.of_vc [] [.tmp 4] Tryz.func80 rfl (by kernel_rfl) Tryz.ntmps80 rfl (by simp) ?_ ?_ ?_ ?_ u F
  · simp [Typ.dsL_len, Typ.markL_len]
  · exact Typ.rows_len _
  · intro h T
    have hn : l = [] := by rw [Typ.dsL_eq] at h; simpa using h
    subst hn
    simp only [go_sem, ↓reduceIte, reduceCtorEq, reduceLT, reduceEqDiff, Nat.reduceBEq, reduceAdd, reduceMul, reduceSub, reduceLeDiff, reduceReplicate]
    refine loop_count 5 0 (fun _ => Fw.InvT 35 [(0, .sl 3 []), (1, I k)] fun _ _ T' => T' = T) rfl ⟨rfl, by simp [envOf, setE], rfl⟩ ?_
    rintro i ⟨env, H, n, nt, T'⟩ hi h5 ⟨rfl, hfs, hT⟩
    simp only [List.forall_mem_cons] at h5 hfs hT
    obtain ⟨e0, e1, -⟩ := hfs
    have hi0 : i = 0 := by omega
    subst hi0; subst hT
    simp only [h5, e0, e1, go_sem, ↓reduceIte, reduceCtorEq, reduceLT, reduceEqDiff, Nat.reduceBEq, reduceAdd, reduceMul, reduceSub, reduceLeDiff, reduceReplicate, Int.lt_irrefl, decide_false, retN_ret, retN_normal, resD_one, resOne]
    simp [Typ.cntL]
  · intro _ e cells T hcs0
    simp only [hdl, go_sem, ↓reduceIte, reduceCtorEq, reduceLT, reduceEqDiff, Nat.reduceBEq, reduceAdd, reduceMul, reduceSub, reduceLeDiff, reduceReplicate]
    refine loop_count 5 l.length (fun i => Fw.InvT 35 [(0, .ms 0 0 l.length), (1, I (k + (Typ.cntL (l.take i) : Nat)))] fun H n T' => n = bump noN 0 ∧ bl T' = bl T ∧ ∃ cs, OL O1 ((Typ.dsL (Typ.markL (l.take i) k)).flatten ++ (Typ.dsL (l.drop i)).flatten) cs T' ∧ H 0 = some ⟨0, e, 3, cs, none⟩) rfl ⟨rfl, by simp [envOf, setE, Typ.cntL], rfl, rfl, cells, by simpa [Typ.markL, Typ.dsL_eq] using hcs0, by simp [upd]⟩ ?_
    rintro i ⟨env, H, n, nt, T'⟩ hi h5 ⟨rfl, hfs, hn, hT, cs, hcs, hH⟩
    simp only [List.forall_mem_cons] at h5 hfs hn hT hcs hH
    subst hn
    obtain ⟨e0, e1, -⟩ := hfs
    simp only [h5, e0, e1, go_sem, ↓reduceIte, reduceCtorEq, reduceLT, reduceEqDiff, Nat.reduceBEq, reduceAdd, reduceMul, reduceSub, reduceLeDiff, reduceReplicate]
    refine condK_split (fun h => ?_) (fun h => ?_)
    · have hlt : i < l.length := by simpa using h
      have hkl : ((i : Int) < (l.length : Int)) = True := eq_true (by omega)
      have hdr : (Typ.dsL (l.drop i)).flatten = (l[i]).ds ++ (Typ.dsL (l.drop (i + 1))).flatten := by
        rw [Typ.dsL_eq, Typ.dsL_eq, List.drop_eq_getElem_cons hlt, List.map_cons, List.flatten_cons]
      have hmk : (Typ.dsL (Typ.markL (l.take (i + 1)) k)).flatten = (Typ.dsL (Typ.markL (l.take i) k)).flatten ++ ((l[i]).mark (k + (Typ.cntL (l.take i) : Nat))).ds := by
        rw [List.take_succ_eq_append_getElem hlt, Typ.markL_app, Typ.dsL_eq, Typ.dsL_eq]; simp [Typ.markL]
      have hct := Typ.cntL_take l i hlt
      have hcl := Typ.cntL_le l (i + 1)
      have hmem : l[i] ∈ l := List.getElem_mem hlt
      rw [hdr] at hcs
      generalize hxx : l[i] = xx at hct hmk hcs hmem
      generalize hK : k + ((Typ.cntL (l.take i) : Nat) : Int) = K at *
      obtain ⟨a0, a1, a2⟩ := xx
      simp only [Typ.cnt] at hct
      obtain ⟨c1, d1, T1, T2, rfl, rfl, o1, o2⟩ := OL.split _ hcs
      obtain ⟨cx, c2, Tx, T3, rfl, rfl, ox, o3⟩ := OL.split _ o2
      simp only [Typ.ds, go_sem, List.cons_append, List.nil_append, ol_sc, ol_sl, ol_nil] at ox
      obtain ⟨_, rfl, ⟨_, rfl, ⟨pa2, na2, qa2, Fa2, _, _, rfl, rfl, ⟨rfl, rfl⟩⟩⟩⟩ := ox
      have hc1 : c1.length = i * 3 := by
        rw [o1.len, flatten_len (Typ.rows_len _), Typ.dsL_len, Typ.markL_len, List.length_take, Nat.min_eq_left (Nat.le_of_lt hlt)]
      have ft0 : ∀ r : List D, (c1 ++ r).take (i * 3) = c1 := fun r => by rw [← hc1, List.take_left]
      have fd0 : ∀ r : List D, (c1 ++ r).drop (i * 3) = r := fun r => by rw [← hc1, List.drop_left]
      have ftj : ∀ (r : List D) (j : Nat), (c1 ++ r).take (i * 3 + j) = c1 ++ r.take j := fun r j => by rw [← hc1, List.take_length_add_append]
      have fdj : ∀ (r : List D) (j : Nat), (c1 ++ r).drop (i * 3 + j) = r.drop j := fun r j => by rw [← hc1, ← List.drop_drop, List.drop_left]
      simp only [h, h5, e0, e1, hH, hkl, ft0, fd0, ftj, fdj, Nat.add_assoc, List.append_assoc, List.cons_append, go_sem, ↓reduceIte, reduceCtorEq, reduceLT, reduceEqDiff, Nat.reduceBEq, reduceAdd, reduceMul, reduceSub, reduceLeDiff, reduceReplicate]
      have w0 : IntKind.i64.wrap (K + 1) = K + 1 := Go.IntWalk.i64_in _ (by omega)
      refine ⟨by simp; omega, ?_⟩
      simp only [h5, e0, e1, hH, hkl, ft0, fd0, ftj, fdj, Nat.add_assoc, List.append_assoc, List.cons_append, w0, go_sem, ↓reduceIte, reduceCtorEq, reduceLT, reduceEqDiff, Nat.reduceBEq, reduceAdd, reduceMul, reduceSub, reduceLeDiff, reduceReplicate]
      have w1 : IntKind.i64.wrap ((K + 1) + 1) = (K + 1) + 1 := Go.IntWalk.i64_in _ (by omega)
      refine callK_intro _ (markText (K + 1) (by omega) (by omega)) (by simp) ?_
      simp only [h5, e0, e1, hH, hkl, ft0, fd0, ftj, fdj, Nat.add_assoc, List.append_assoc, List.cons_append, go_sem, ↓reduceIte, reduceCtorEq, reduceLT, reduceEqDiff, Nat.reduceBEq, reduceAdd, reduceMul, reduceSub, reduceLeDiff, reduceReplicate]
      refine ⟨by simp; omega, ?_⟩
      simp only [h5, e0, e1, hH, hkl, ft0, fd0, ftj, fdj, Nat.add_assoc, List.append_assoc, List.cons_append, w1, go_sem, ↓reduceIte, reduceCtorEq, reduceLT, reduceEqDiff, Nat.reduceBEq, reduceAdd, reduceMul, reduceSub, reduceLeDiff, reduceReplicate]
      refine callK_mark [⟨.slice pa2 na2 qa2, Typ.sl a2, Fa2⟩] (T1 ++ T3) (T1 ++ ⟨.slice pa2 na2 qa2, Typ.sl (Typ.markL a2 ((K + 1) + 1)), Fa2⟩ :: T3) [Typ.sl (Typ.markL a2 ((K + 1) + 1))] (.int .i64 (((K + 1) + 1) + (Typ.cntL a2 : Nat))) ?_ ?_ ?_ ?_ ?_
      · exact markTypeS a2 ((K + 1) + 1) (by omega) (by omega) (.slice pa2 na2 qa2) Fa2
      · simp
      · have := permT T1 T3 ⟨.slice pa2 na2 qa2, Typ.sl a2, Fa2⟩
        simp only [List.append_assoc, List.cons_append, List.nil_append, go_sem] at this ⊢; exact this
      · simp only [upT]; exact permT _ _ _
      simp only [h5, e0, e1, hH, hkl, ft0, fd0, ftj, fdj, Nat.add_assoc, List.append_assoc, List.cons_append, go_sem, ↓reduceIte, reduceCtorEq, reduceLT, reduceEqDiff, Nat.reduceBEq, reduceAdd, reduceMul, reduceSub, reduceLeDiff, reduceReplicate]
      refine nextC_mk (by simp [setE, wrap_succ i (by omega)]) hlt ⟨rfl, ?_, rfl, ?_, _, ?_, rfl⟩
      · simp only [List.forall_mem_cons, setE, ↓reduceIte, Nat.reduceEqDiff, e0, List.not_mem_nil, false_implies, implies_true, and_true, true_and]
        exact congrArg (fun n => D.sc (.int .i64 n)) (by omega)
      · rw [← hT]
        simp [bl]
      · rw [hmk, List.append_assoc]
        simp only [Typ.mark, Typ.ds, go_sem, List.cons_append, List.nil_append, List.append_assoc]
        refine o1.app ?_
        repeat first | exact o3 | apply OL.sc' | apply OL.tr'
    · have hi' : i = l.length := by simp at h; omega
      subst hi'
      simp only [h, e1, go_sem, ↓reduceIte, reduceCtorEq, reduceLT, reduceEqDiff, Nat.reduceBEq, reduceAdd, reduceMul, reduceSub, reduceLeDiff, reduceReplicate, retM_ret, retM_normal, resD_one, resOne]
      rw [List.take_length] at hcs ⊢
      first | exact ⟨_, hH, rfl, rfl, rfl, by simpa [Typ.dsL_eq] using hcs, hT⟩ | exact ⟨rfl, ⟨_, hH, rfl, rfl, rfl, by simpa [Typ.dsL_eq] using hcs, hT⟩⟩
termination_by l
decreasing_by all_goals (have := List.sizeOf_lt_of_mem hmem; simp at this; omega)
theorem markConstructorS (l : List Constructor) (k : Int) (h0 : 0 ≤ k) (h1 : k + (Constructor.cntL l : Nat) ≤ 1099511627776) (u : Value) (F : List Nat) : SpG Tryz.prog 79 [.sc u, I k] [⟨u, Constructor.sl l, F⟩] [Constructor.sl (Constructor.markL l k)] (I (k + (Constructor.cntL l : Nat))) := by
  have hdl : (Constructor.dsL l).length = l.length := Constructor.dsL_len l
  have hLL : l.length ≤ Constructor.cntL l := by
    clear h1 h0 hdl
    induction l with
    | nil => simp
    | cons c l ih => obtain ⟨a0, a1⟩ := c; simp only [List.length_cons, Constructor.cntL, Constructor.cnt]; omega
  unfold Constructor.sl
  refine SpM.of_vc [] [.tmp 4] Tryz.func79 rfl (by kernel_rfl) Tryz.ntmps79 rfl (by simp) ?_ ?_ ?_ ?_ u F
  · simp [Constructor.dsL_len, Constructor.markL_len]
  · exact Constructor.rows_len _
  · intro h T
    have hn : l = [] := by rw [Constructor.dsL_eq] at h; simpa using h
    subst hn
    simp only [go_sem, ↓reduceIte, reduceCtorEq, reduceLT, reduceEqDiff, Nat.reduceBEq, reduceAdd, reduceMul, reduceSub, reduceLeDiff, reduceReplicate]
    refine loop_count 5 0 (fun _ => Fw.InvT 28 [(0, .sl 2 []), (1, I k)] fun _ _ T' => T' = T) rfl ⟨rfl, by simp [envOf, setE], rfl⟩ ?_
    rintro i ⟨env, H, n, nt, T'⟩ hi h5 ⟨rfl, hfs, hT⟩
    simp only [List.forall_mem_cons] at h5 hfs hT
    obtain ⟨e0, e1, -⟩ := hfs
    have hi0 : i = 0 := by omega
    subst hi0; subst hT
    simp only [h5, e0, e1, go_sem, ↓reduceIte, reduceCtorEq, reduceLT, reduceEqDiff, Nat.reduceBEq, reduceAdd, reduceMul, reduceSub, reduceLeDiff, reduceReplicate, Int.lt_irrefl, decide_false, retN_ret, retN_normal, resD_one, resOne]
    simp [Constructor.cntL]
  · intro _ e cells T hcs0
    simp only [hdl, go_sem, ↓reduceIte, reduceCtorEq, reduceLT, reduceEqDiff, Nat.reduceBEq, reduceAdd, reduceMul, reduceSub, reduceLeDiff, reduceReplicate]
    refine loop_count 5 l.length (fun i => Fw.InvT 28 [(0, .ms 0 0 l.length), (1, I (k + (Constructor.cntL (l.take i) : Nat)))] fun H n T' => n = bump noN 0 ∧ bl T' = bl T ∧ ∃ cs, OL O1 ((Constructor.dsL (Constructor.markL (l.take i) k)).flatten ++ (Constructor.dsL (l.drop i)).flatten) cs T' ∧ H 0 = some ⟨0, e, 2, cs, none⟩) rfl ⟨rfl, by simp [envOf, setE, Constructor.cntL], rfl, rfl, cells, by simpa [Constructor.markL, Constructor.dsL_eq] using hcs0, by simp [upd]⟩ ?_
    rintro i ⟨env, H, n, nt, T'⟩ hi h5 ⟨rfl, hfs, hn, hT, cs, hcs, hH⟩
    simp only [List.forall_mem_cons] at h5 hfs hn hT hcs hH
    subst hn
    obtain ⟨e0, e1, -⟩ := hfs
    simp only [h5, e0, e1, go_sem, ↓reduceIte, reduceCtorEq, reduceLT, reduceEqDiff, Nat.reduceBEq, reduceAdd, reduceMul, reduceSub, reduceLeDiff, reduceReplicate]
    refine condK_split (fun h => ?_) (fun h => ?_)
    · have hlt : i < l.length := by simpa using h
      have hkl : ((i : Int) < (l.length : Int)) = True := eq_true (by omega)
      have hdr : (Constructor.dsL (l.drop i)).flatten = (l[i]).ds ++ (Constructor.dsL (l.drop (i + 1))).flatten := by
        rw [Constructor.dsL_eq, Constructor.dsL_eq, List.drop_eq_getElem_cons hlt, List.map_cons, List.flatten_cons]
      have hmk : (Constructor.dsL (Constructor.markL (l.take (i + 1)) k)).flatten = (Constructor.dsL (Constructor.markL (l.take i) k)).flatten ++ ((l[i]).mark (k + (Constructor.cntL (l.take i) : Nat))).ds := by
        rw [List.take_succ_eq_append_getElem hlt, Constructor.markL_app, Constructor.dsL_eq, Constructor.dsL_eq]; simp [Constructor.markL]
      have hct := Constructor.cntL_take l i hlt
      have hcl := Constructor.cntL_le l (i + 1)
      have hmem : l[i] ∈ l := List.getElem_mem hlt
      rw [hdr] at hcs
      generalize hxx : l[i] = xx at hct hmk hcs hmem
      generalize hK : k + ((Constructor.cntL (l.take i) : Nat) : Int) = K at *
      obtain ⟨a0, a1⟩ := xx
      simp only [Constructor.cnt] at hct
      obtain ⟨c1, d1, T1, T2, rfl, rfl, o1, o2⟩ := OL.split _ hcs
      obtain ⟨cx, c2, Tx, T3, rfl, rfl, ox, o3⟩ := OL.split _ o2
      simp only [Constructor.ds, go_sem, List.cons_append, List.nil_append, ol_sc, ol_sl, ol_nil] at ox
      obtain ⟨_, rfl, ⟨pa1, na1, qa1, Fa1, _, _, rfl, rfl, ⟨rfl, rfl⟩⟩⟩ := ox
      have hc1 : c1.length = i * 2 := by
        rw [o1.len, flatten_len (Constructor.rows_len _), Constructor.dsL_len, Constructor.markL_len, List.length_take, Nat.min_eq_left (Nat.le_of_lt hlt)]
      have ft0 : ∀ r : List D, (c1 ++ r).take (i * 2) = c1 := fun r => by rw [← hc1, List.take_left]
      have fd0 : ∀ r : List D, (c1 ++ r).drop (i * 2) = r := fun r => by rw [← hc1, List.drop_left]
      have ftj : ∀ (r : List D) (j : Nat), (c1 ++ r).take (i * 2 + j) = c1 ++ r.take j := fun r j => by rw [← hc1, List.take_length_add_append]
      have fdj : ∀ (r : List D) (j : Nat), (c1 ++ r).drop (i * 2 + j) = r.drop j := fun r j => by rw [← hc1, ← List.drop_drop, List.drop_left]
      simp only [h, h5, e0, e1, hH, hkl, ft0, fd0, ftj, fdj, Nat.add_assoc, List.append_assoc, List.cons_append, go_sem, ↓reduceIte, reduceCtorEq, reduceLT, reduceEqDiff, Nat.reduceBEq, reduceAdd, reduceMul, reduceSub, reduceLeDiff, reduceReplicate]
      have w0 : IntKind.i64.wrap (K + 1) = K + 1 := Go.IntWalk.i64_in _ (by omega)
      refine callK_intro _ (markText K (by omega) (by omega)) (by simp) ?_
      simp only [h5, e0, e1, hH, hkl, ft0, fd0, ftj, fdj, Nat.add_assoc, List.append_assoc, List.cons_append, go_sem, ↓reduceIte, reduceCtorEq, reduceLT, reduceEqDiff, Nat.reduceBEq, reduceAdd, reduceMul, reduceSub, reduceLeDiff, reduceReplicate]
      refine ⟨by simp; omega, ?_⟩
      simp only [h5, e0, e1, hH, hkl, ft0, fd0, ftj, fdj, Nat.add_assoc, List.append_assoc, List.cons_append, w0, go_sem, ↓reduceIte, reduceCtorEq, reduceLT, reduceEqDiff, Nat.reduceBEq, reduceAdd, reduceMul, reduceSub, reduceLeDiff, reduceReplicate]
      refine callK_mark [⟨.slice pa1 na1 qa1, Typ.sl a1, Fa1⟩] (T1 ++ T3) (T1 ++ ⟨.slice pa1 na1 qa1, Typ.sl (Typ.markL a1 (K + 1)), Fa1⟩ :: T3) [Typ.sl (Typ.markL a1 (K + 1))] (.int .i64 ((K + 1) + (Typ.cntL a1 : Nat))) ?_ ?_ ?_ ?_ ?_
      · exact markTypeS a1 (K + 1) (by omega) (by omega) (.slice pa1 na1 qa1) Fa1
      · simp
      · have := permT T1 T3 ⟨.slice pa1 na1 qa1, Typ.sl a1, Fa1⟩
        simp only [List.append_assoc, List.cons_append, List.nil_append, go_sem] at this ⊢; exact this
      · simp only [upT]; exact permT _ _ _
      simp only [h5, e0, e1, hH, hkl, ft0, fd0, ftj, fdj, Nat.add_assoc, List.append_assoc, List.cons_append, go_sem, ↓reduceIte, reduceCtorEq, reduceLT, reduceEqDiff, Nat.reduceBEq, reduceAdd, reduceMul, reduceSub, reduceLeDiff, reduceReplicate]
      refine nextC_mk (by simp [setE, wrap_succ i (by omega)]) hlt ⟨rfl, ?_, rfl, ?_, _, ?_, rfl⟩
      · simp only [List.forall_mem_cons, setE, ↓reduceIte, Nat.reduceEqDiff, e0, List.not_mem_nil, false_implies, implies_true, and_true, true_and]
        exact congrArg (fun n => D.sc (.int .i64 n)) (by omega)
      · rw [← hT]
        simp [bl]
      · rw [hmk, List.append_assoc]
        simp only [Constructor.mark, Constructor.ds, go_sem, List.cons_append, List.nil_append, List.append_assoc]
        refine o1.app ?_
        repeat first | exact o3 | apply OL.sc' | apply OL.tr'
    · have hi' : i = l.length := by simp at h; omega
      subst hi'
      simp only [h, e1, go_sem, ↓reduceIte, reduceCtorEq, reduceLT, reduceEqDiff, Nat.reduceBEq, reduceAdd, reduceMul, reduceSub, reduceLeDiff, reduceReplicate, retM_ret, retM_normal, resD_one, resOne]
      rw [List.take_length] at hcs ⊢
      first | exact ⟨_, hH, rfl, rfl, rfl, by simpa [Constructor.dsL_eq] using hcs, hT⟩ | exact ⟨rfl, ⟨_, hH, rfl, rfl, rfl, by simpa [Constructor.dsL_eq] using hcs, hT⟩⟩
theorem markDataS (l : List Dat) (k : Int) (h0 : 0 ≤ k) (h1 : k + (Dat.cntL l : Nat) ≤ 1099511627776) (u : Value) (F : List Nat) : SpG Tryz.prog 40 [.sc u, I k] [⟨u, Dat.sl l, F⟩] [Dat.sl (Dat.markL l k)] (I (k + (Dat.cntL l : Nat))) := by
  have hdl : (Dat.dsL l).length = l.length := Dat.dsL_len l
  have hLL : l.length ≤ Dat.cntL l := by
    clear h1 h0 hdl
    induction l with
    | nil => simp
    | cons c l ih => obtain ⟨a0, a1⟩ := c; simp only [List.length_cons, Dat.cntL, Dat.cnt]; omega
  unfold Dat.sl
  refine SpM.of_vc [] [.tmp 4] Tryz.func40 rfl (by kernel_rfl) Tryz.ntmps40 rfl (by simp) ?_ ?_ ?_ ?_ u F
  · simp [Dat.dsL_len, Dat.markL_len]
  · exact Dat.rows_len _
  · intro h T
    have hn : l = [] := by rw [Dat.dsL_eq] at h; simpa using h
    subst hn
    simp only [go_sem, ↓reduceIte, reduceCtorEq, reduceLT, reduceEqDiff, Nat.reduceBEq, reduceAdd, reduceMul, reduceSub, reduceLeDiff, reduceReplicate]
    refine loop_count 5 0 (fun _ => Fw.InvT 28 [(0, .sl 2 []), (1, I k)] fun _ _ T' => T' = T) rfl ⟨rfl, by simp [envOf, setE], rfl⟩ ?_
    rintro i ⟨env, H, n, nt, T'⟩ hi h5 ⟨rfl, hfs, hT⟩
    simp only [List.forall_mem_cons] at h5 hfs hT
    obtain ⟨e0, e1, -⟩ := hfs
    have hi0 : i = 0 := by omega
    subst hi0; subst hT
    simp only [h5, e0, e1, go_sem, ↓reduceIte, reduceCtorEq, reduceLT, reduceEqDiff, Nat.reduceBEq, reduceAdd, reduceMul, reduceSub, reduceLeDiff, reduceReplicate, Int.lt_irrefl, decide_false, retN_ret, retN_normal, resD_one, resOne]
    simp [Dat.cntL]
  · intro _ e cells T hcs0
    simp only [hdl, go_sem, ↓reduceIte, reduceCtorEq, reduceLT, reduceEqDiff, Nat.reduceBEq, reduceAdd, reduceMul, reduceSub, reduceLeDiff, reduceReplicate]
    refine loop_count 5 l.length (fun i => Fw.InvT 28 [(0, .ms 0 0 l.length), (1, I (k + (Dat.cntL (l.take i) : Nat)))] fun H n T' => n = bump noN 0 ∧ bl T' = bl T ∧ ∃ cs, OL O1 ((Dat.dsL (Dat.markL (l.take i) k)).flatten ++ (Dat.dsL (l.drop i)).flatten) cs T' ∧ H 0 = some ⟨0, e, 2, cs, none⟩) rfl ⟨rfl, by simp [envOf, setE, Dat.cntL], rfl, rfl, cells, by simpa [Dat.markL, Dat.dsL_eq] using hcs0, by simp [upd]⟩ ?_
    rintro i ⟨env, H, n, nt, T'⟩ hi h5 ⟨rfl, hfs, hn, hT, cs, hcs, hH⟩
    simp only [List.forall_mem_cons] at h5 hfs hn hT hcs hH
    subst hn
    obtain ⟨e0, e1, -⟩ := hfs
    simp only [h5, e0, e1, go_sem, ↓reduceIte, reduceCtorEq, reduceLT, reduceEqDiff, Nat.reduceBEq, reduceAdd, reduceMul, reduceSub, reduceLeDiff, reduceReplicate]
    refine condK_split (fun h => ?_) (fun h => ?_)
    · have hlt : i < l.length := by simpa using h
      have hkl : ((i : Int) < (l.length : Int)) = True := eq_true (by omega)
      have hdr : (Dat.dsL (l.drop i)).flatten = (l[i]).ds ++ (Dat.dsL (l.drop (i + 1))).flatten := by
        rw [Dat.dsL_eq, Dat.dsL_eq, List.drop_eq_getElem_cons hlt, List.map_cons, List.flatten_cons]
      have hmk : (Dat.dsL (Dat.markL (l.take (i + 1)) k)).flatten = (Dat.dsL (Dat.markL (l.take i) k)).flatten ++ ((l[i]).mark (k + (Dat.cntL (l.take i) : Nat))).ds := by
        rw [List.take_succ_eq_append_getElem hlt, Dat.markL_app, Dat.dsL_eq, Dat.dsL_eq]; simp [Dat.markL]
      have hct := Dat.cntL_take l i hlt
      have hcl := Dat.cntL_le l (i + 1)
      have hmem : l[i] ∈ l := List.getElem_mem hlt
      rw [hdr] at hcs
      generalize hxx : l[i] = xx at hct hmk hcs hmem
      generalize hK : k + ((Dat.cntL (l.take i) : Nat) : Int) = K at *
      obtain ⟨a0, a1⟩ := xx
      simp only [Dat.cnt] at hct
      obtain ⟨c1, d1, T1, T2, rfl, rfl, o1, o2⟩ := OL.split _ hcs
      obtain ⟨cx, c2, Tx, T3, rfl, rfl, ox, o3⟩ := OL.split _ o2
      simp only [Dat.ds, go_sem, List.cons_append, List.nil_append, ol_sc, ol_sl, ol_nil] at ox
      obtain ⟨_, rfl, ⟨pa1, na1, qa1, Fa1, _, _, rfl, rfl, ⟨rfl, rfl⟩⟩⟩ := ox
      have hc1 : c1.length = i * 2 := by
        rw [o1.len, flatten_len (Dat.rows_len _), Dat.dsL_len, Dat.markL_len, List.length_take, Nat.min_eq_left (Nat.le_of_lt hlt)]
      have ft0 : ∀ r : List D, (c1 ++ r).take (i * 2) = c1 := fun r => by rw [← hc1, List.take_left]
      have fd0 : ∀ r : List D, (c1 ++ r).drop (i * 2) = r := fun r => by rw [← hc1, List.drop_left]
      have ftj : ∀ (r : List D) (j : Nat), (c1 ++ r).take (i * 2 + j) = c1 ++ r.take j := fun r j => by rw [← hc1, List.take_length_add_append]
      have fdj : ∀ (r : List D) (j : Nat), (c1 ++ r).drop (i * 2 + j) = r.drop j := fun r j => by rw [← hc1, ← List.drop_drop, List.drop_left]
      simp only [h, h5, e0, e1, hH, hkl, ft0, fd0, ftj, fdj, Nat.add_assoc, List.append_assoc, List.cons_append, go_sem, ↓reduceIte, reduceCtorEq, reduceLT, reduceEqDiff, Nat.reduceBEq, reduceAdd, reduceMul, reduceSub, reduceLeDiff, reduceReplicate]
      have w0 : IntKind.i64.wrap (K + 1) = K + 1 := Go.IntWalk.i64_in _ (by omega)
      refine callK_intro _ (markText K (by omega) (by omega)) (by simp) ?_
      simp only [h5, e0, e1, hH, hkl, ft0, fd0, ftj, fdj, Nat.add_assoc, List.append_assoc, List.cons_append, go_sem, ↓reduceIte, reduceCtorEq, reduceLT, reduceEqDiff, Nat.reduceBEq, reduceAdd, reduceMul, reduceSub, reduceLeDiff, reduceReplicate]
      refine ⟨by simp; omega, ?_⟩
      simp only [h5, e0, e1, hH, hkl, ft0, fd0, ftj, fdj, Nat.add_assoc, List.append_assoc, List.cons_append, w0, go_sem, ↓reduceIte, reduceCtorEq, reduceLT, reduceEqDiff, Nat.reduceBEq, reduceAdd, reduceMul, reduceSub, reduceLeDiff, reduceReplicate]
      refine callK_mark [⟨.slice pa1 na1 qa1, Constructor.sl a1, Fa1⟩] (T1 ++ T3) (T1 ++ ⟨.slice pa1 na1 qa1, Constructor.sl (Constructor.markL a1 (K + 1)), Fa1⟩ :: T3) [Constructor.sl (Constructor.markL a1 (K + 1))] (.int .i64 ((K + 1) + (Constructor.cntL a1 : Nat))) ?_ ?_ ?_ ?_ ?_
      · exact markConstructorS a1 (K + 1) (by omega) (by omega) (.slice pa1 na1 qa1) Fa1
      · simp
      · have := permT T1 T3 ⟨.slice pa1 na1 qa1, Constructor.sl a1, Fa1⟩
        simp only [List.append_assoc, List.cons_append, List.nil_append, go_sem] at this ⊢; exact this
      · simp only [upT]; exact permT _ _ _
      simp only [h5, e0, e1, hH, hkl, ft0, fd0, ftj, fdj, Nat.add_assoc, List.append_assoc, List.cons_append, go_sem, ↓reduceIte, reduceCtorEq, reduceLT, reduceEqDiff, Nat.reduceBEq, reduceAdd, reduceMul, reduceSub, reduceLeDiff, reduceReplicate]
      refine nextC_mk (by simp [setE, wrap_succ i (by omega)]) hlt ⟨rfl, ?_, rfl, ?_, _, ?_, rfl⟩
      · simp only [List.forall_mem_cons, setE, ↓reduceIte, Nat.reduceEqDiff, e0, List.not_mem_nil, false_implies, implies_true, and_true, true_and]
        exact congrArg (fun n => D.sc (.int .i64 n)) (by omega)
      · rw [← hT]
        simp [bl]
      · rw [hmk, List.append_assoc]
        simp only [Dat.mark, Dat.ds, go_sem, List.cons_append, List.nil_append, List.append_assoc]
        refine o1.app ?_
        repeat first | exact o3 | apply OL.sc' | apply OL.tr'
    · have hi' : i = l.length := by simp at h; omega
      subst hi'
      simp only [h, e1, go_sem, ↓reduceIte, reduceCtorEq, reduceLT, reduceEqDiff, Nat.reduceBEq, reduceAdd, reduceMul, reduceSub, reduceLeDiff, reduceReplicate, retM_ret, retM_normal, resD_one, resOne]
      rw [List.take_length] at hcs ⊢
      first | exact ⟨_, hH, rfl, rfl, rfl, by simpa [Dat.dsL_eq] using hcs, hT⟩ | exact ⟨rfl, ⟨_, hH, rfl, rfl, rfl, by simpa [Dat.dsL_eq] using hcs, hT⟩⟩
theorem markTermS (l : List Term) (k : Int) (h0 : 0 ≤ k) (h1 : k + (Term.cntL l : Nat) ≤ 1099511627776) (u : Value) (F : List Nat) : SpG Tryz.prog 82 [.sc u, I k] [⟨u, Term.sl l, F⟩] [Term.sl (Term.markL l k)] (I (k + (Term.cntL l : Nat))) := by
  have hdl : (Term.dsL l).length = l.length := Term.dsL_len l
  have hLL : l.length ≤ Term.cntL l := by
    clear h1 h0 hdl
    induction l with
    | nil => simp
    | cons c l ih => obtain ⟨a0, a1, a2, ⟨a3_0, a3_1, a3_2⟩, a4, a5⟩ := c; simp only [List.length_cons, Term.cntL, Term.cnt, Typ.cnt]; omega
  unfold Term.sl
  refine SpM.of_vc [] [.tmp 4] Tryz.func82 rfl (by kernel_rfl) Tryz.ntmps82 rfl (by simp) ?_ ?_ ?_ ?_ u F
  · simp [Term.dsL_len, Term.markL_len]
  · exact Term.rows_len _
  · intro h T
    have hn : l = [] := by rw [Term.dsL_eq] at h; simpa using h
    subst hn
    simp only [go_sem, ↓reduceIte, reduceCtorEq, reduceLT, reduceEqDiff, Nat.reduceBEq, reduceAdd, reduceMul, reduceSub, reduceLeDiff, reduceReplicate]
    refine loop_count 5 0 (fun _ => Fw.InvT 74 [(0, .sl 8 []), (1, I k)] fun _ _ T' => T' = T) rfl ⟨rfl, by simp [envOf, setE], rfl⟩ ?_
    rintro i ⟨env, H, n, nt, T'⟩ hi h5 ⟨rfl, hfs, hT⟩
    simp only [List.forall_mem_cons] at h5 hfs hT
    obtain ⟨e0, e1, -⟩ := hfs
    have hi0 : i = 0 := by omega
    subst hi0; subst hT
    simp only [h5, e0, e1, go_sem, ↓reduceIte, reduceCtorEq, reduceLT, reduceEqDiff, Nat.reduceBEq, reduceAdd, reduceMul, reduceSub, reduceLeDiff, reduceReplicate, Int.lt_irrefl, decide_false, retN_ret, retN_normal, resD_one, resOne]
    simp [Term.cntL]
  · intro _ e cells T hcs0
    simp only [hdl, go_sem, ↓reduceIte, reduceCtorEq, reduceLT, reduceEqDiff, Nat.reduceBEq, reduceAdd, reduceMul, reduceSub, reduceLeDiff, reduceReplicate]
    refine loop_count 5 l.length (fun i => Fw.InvT 74 [(0, .ms 0 0 l.length), (1, I (k + (Term.cntL (l.take i) : Nat)))] fun H n T' => n = bump noN 0 ∧ bl T' = bl T ∧ ∃ cs, OL O1 ((Term.dsL (Term.markL (l.take i) k)).flatten ++ (Term.dsL (l.drop i)).flatten) cs T' ∧ H 0 = some ⟨0, e, 8, cs, none⟩) rfl ⟨rfl, by simp [envOf, setE, Term.cntL], rfl, rfl, cells, by simpa [Term.markL, Term.dsL_eq] using hcs0, by simp [upd]⟩ ?_
    rintro i ⟨env, H, n, nt, T'⟩ hi h5 ⟨rfl, hfs, hn, hT, cs, hcs, hH⟩
    simp only [List.forall_mem_cons] at h5 hfs hn hT hcs hH
    subst hn
    obtain ⟨e0, e1, -⟩ := hfs
    simp only [h5, e0, e1, go_sem, ↓reduceIte, reduceCtorEq, reduceLT, reduceEqDiff, Nat.reduceBEq, reduceAdd, reduceMul, reduceSub, reduceLeDiff, reduceReplicate]
    refine condK_split (fun h => ?_) (fun h => ?_)
    · have hlt : i < l.length := by simpa using h
      have hkl : ((i : Int) < (l.length : Int)) = True := eq_true (by omega)
      have hdr : (Term.dsL (l.drop i)).flatten = (l[i]).ds ++ (Term.dsL (l.drop (i + 1))).flatten := by
        rw [Term.dsL_eq, Term.dsL_eq, List.drop_eq_getElem_cons hlt, List.map_cons, List.flatten_cons]
      have hmk : (Term.dsL (Term.markL (l.take (i + 1)) k)).flatten = (Term.dsL (Term.markL (l.take i) k)).flatten ++ ((l[i]).mark (k + (Term.cntL (l.take i) : Nat))).ds := by
        rw [List.take_succ_eq_append_getElem hlt, Term.markL_app, Term.dsL_eq, Term.dsL_eq]; simp [Term.markL]
      have hct := Term.cntL_take l i hlt
      have hcl := Term.cntL_le l (i + 1)
      have hmem : l[i] ∈ l := List.getElem_mem hlt
      rw [hdr] at hcs
      generalize hxx : l[i] = xx at hct hmk hcs hmem
      generalize hK : k + ((Term.cntL (l.take i) : Nat) : Int) = K at *
      obtain ⟨a0, a1, a2, ⟨a3_0, a3_1, a3_2⟩, a4, a5⟩ := xx
      simp only [Term.cnt, Typ.cnt] at hct
      obtain ⟨c1, d1, T1, T2, rfl, rfl, o1, o2⟩ := OL.split _ hcs
      obtain ⟨cx, c2, Tx, T3, rfl, rfl, ox, o3⟩ := OL.split _ o2
      simp only [Term.ds, Typ.ds, go_sem, List.cons_append, List.nil_append, ol_sc, ol_sl, ol_nil] at ox
      obtain ⟨_, rfl, ⟨_, rfl, ⟨_, rfl, ⟨_, rfl, ⟨_, rfl, ⟨pa3_2, na3_2, qa3_2, Fa3_2, _, _, rfl, rfl, ⟨pa4, na4, qa4, Fa4, _, _, rfl, rfl, ⟨pa5, na5, qa5, Fa5, _, _, rfl, rfl, ⟨rfl, rfl⟩⟩⟩⟩⟩⟩⟩⟩⟩ := ox
      have hc1 : c1.length = i * 8 := by
        rw [o1.len, flatten_len (Term.rows_len _), Term.dsL_len, Term.markL_len, List.length_take, Nat.min_eq_left (Nat.le_of_lt hlt)]
      have ft0 : ∀ r : List D, (c1 ++ r).take (i * 8) = c1 := fun r => by rw [← hc1, List.take_left]
      have fd0 : ∀ r : List D, (c1 ++ r).drop (i * 8) = r := fun r => by rw [← hc1, List.drop_left]
      have ftj : ∀ (r : List D) (j : Nat), (c1 ++ r).take (i * 8 + j) = c1 ++ r.take j := fun r j => by rw [← hc1, List.take_length_add_append]
      have fdj : ∀ (r : List D) (j : Nat), (c1 ++ r).drop (i * 8 + j) = r.drop j := fun r j => by rw [← hc1, ← List.drop_drop, List.drop_left]
      simp only [h, h5, e0, e1, hH, hkl, ft0, fd0, ftj, fdj, Nat.add_assoc, List.append_assoc, List.cons_append, go_sem, ↓reduceIte, reduceCtorEq, reduceLT, reduceEqDiff, Nat.reduceBEq, reduceAdd, reduceMul, reduceSub, reduceLeDiff, reduceReplicate]
      have w0 : IntKind.i64.wrap (K + 1) = K + 1 := Go.IntWalk.i64_in _ (by omega)
      refine ⟨by simp; omega, ?_⟩
      simp only [h5, e0, e1, hH, hkl, ft0, fd0, ftj, fdj, Nat.add_assoc, List.append_assoc, List.cons_append, w0, go_sem, ↓reduceIte, reduceCtorEq, reduceLT, reduceEqDiff, Nat.reduceBEq, reduceAdd, reduceMul, reduceSub, reduceLeDiff, reduceReplicate]
      have w1 : IntKind.i64.wrap ((K + 1) + 1) = (K + 1) + 1 := Go.IntWalk.i64_in _ (by omega)
      refine ⟨by simp; omega, ?_⟩
      simp only [h5, e0, e1, hH, hkl, ft0, fd0, ftj, fdj, Nat.add_assoc, List.append_assoc, List.cons_append, w1, go_sem, ↓reduceIte, reduceCtorEq, reduceLT, reduceEqDiff, Nat.reduceBEq, reduceAdd, reduceMul, reduceSub, reduceLeDiff, reduceReplicate]
      have w2 : IntKind.i64.wrap (((K + 1) + 1) + 1) = ((K + 1) + 1) + 1 := Go.IntWalk.i64_in _ (by omega)
      refine callK_intro _ (markText ((K + 1) + 1) (by omega) (by omega)) (by simp) ?_
      simp only [h5, e0, e1, hH, hkl, ft0, fd0, ftj, fdj, Nat.add_assoc, List.append_assoc, List.cons_append, go_sem, ↓reduceIte, reduceCtorEq, reduceLT, reduceEqDiff, Nat.reduceBEq, reduceAdd, reduceMul, reduceSub, reduceLeDiff, reduceReplicate]
      refine ⟨by simp; omega, ?_⟩
      simp only [h5, e0, e1, hH, hkl, ft0, fd0, ftj, fdj, Nat.add_assoc, List.append_assoc, List.cons_append, w2, go_sem, ↓reduceIte, reduceCtorEq, reduceLT, reduceEqDiff, Nat.reduceBEq, reduceAdd, reduceMul, reduceSub, reduceLeDiff, reduceReplicate]
      have w3 : IntKind.i64.wrap ((((K + 1) + 1) + 1) + 1) = (((K + 1) + 1) + 1) + 1 := Go.IntWalk.i64_in _ (by omega)
      refine ⟨by simp; omega, ?_⟩
      simp only [h5, e0, e1, hH, hkl, ft0, fd0, ftj, fdj, Nat.add_assoc, List.append_assoc, List.cons_append, w3, go_sem, ↓reduceIte, reduceCtorEq, reduceLT, reduceEqDiff, Nat.reduceBEq, reduceAdd, reduceMul, reduceSub, reduceLeDiff, reduceReplicate]
      have w4 : IntKind.i64.wrap (((((K + 1) + 1) + 1) + 1) + 1) = ((((K + 1) + 1) + 1) + 1) + 1 := Go.IntWalk.i64_in _ (by omega)
      refine callK_intro _ (markText ((((K + 1) + 1) + 1) + 1) (by omega) (by omega)) (by simp) ?_
      simp only [h5, e0, e1, hH, hkl, ft0, fd0, ftj, fdj, Nat.add_assoc, List.append_assoc, List.cons_append, go_sem, ↓reduceIte, reduceCtorEq, reduceLT, reduceEqDiff, Nat.reduceBEq, reduceAdd, reduceMul, reduceSub, reduceLeDiff, reduceReplicate]
      refine ⟨by simp; omega, ?_⟩
      simp only [h5, e0, e1, hH, hkl, ft0, fd0, ftj, fdj, Nat.add_assoc, List.append_assoc, List.cons_append, w4, go_sem, ↓reduceIte, reduceCtorEq, reduceLT, reduceEqDiff, Nat.reduceBEq, reduceAdd, reduceMul, reduceSub, reduceLeDiff, reduceReplicate]
      refine callK_mark [⟨.slice pa3_2 na3_2 qa3_2, Typ.sl a3_2, Fa3_2⟩] (T1 ++ ([⟨.slice pa4 na4 qa4, strs a4, Fa4⟩, ⟨.slice pa5 na5 qa5, Term.sl a5, Fa5⟩] ++ T3)) (T1 ++ ⟨.slice pa3_2 na3_2 qa3_2, Typ.sl (Typ.markL a3_2 (((((K + 1) + 1) + 1) + 1) + 1)), Fa3_2⟩ :: ([⟨.slice pa4 na4 qa4, strs a4, Fa4⟩, ⟨.slice pa5 na5 qa5, Term.sl a5, Fa5⟩] ++ T3)) [Typ.sl (Typ.markL a3_2 (((((K + 1) + 1) + 1) + 1) + 1))] (.int .i64 ((((((K + 1) + 1) + 1) + 1) + 1) + (Typ.cntL a3_2 : Nat))) ?_ ?_ ?_ ?_ ?_
      · exact markTypeS a3_2 (((((K + 1) + 1) + 1) + 1) + 1) (by omega) (by omega) (.slice pa3_2 na3_2 qa3_2) Fa3_2
      · simp
      · have := permT T1 ([⟨.slice pa4 na4 qa4, strs a4, Fa4⟩, ⟨.slice pa5 na5 qa5, Term.sl a5, Fa5⟩] ++ T3) ⟨.slice pa3_2 na3_2 qa3_2, Typ.sl a3_2, Fa3_2⟩
        simp only [List.append_assoc, List.cons_append, List.nil_append, go_sem] at this ⊢; exact this
      · simp only [upT]; exact permT _ _ _
      simp only [h5, e0, e1, hH, hkl, ft0, fd0, ftj, fdj, Nat.add_assoc, List.append_assoc, List.cons_append, go_sem, ↓reduceIte, reduceCtorEq, reduceLT, reduceEqDiff, Nat.reduceBEq, reduceAdd, reduceMul, reduceSub, reduceLeDiff, reduceReplicate]
      refine callK_mark [⟨.slice pa4 na4 qa4, strs a4, Fa4⟩] ((T1 ++ [⟨.slice pa3_2 na3_2 qa3_2, Typ.sl (Typ.markL a3_2 (((((K + 1) + 1) + 1) + 1) + 1)), Fa3_2⟩]) ++ ([⟨.slice pa5 na5 qa5, Term.sl a5, Fa5⟩] ++ T3)) ((T1 ++ [⟨.slice pa3_2 na3_2 qa3_2, Typ.sl (Typ.markL a3_2 (((((K + 1) + 1) + 1) + 1) + 1)), Fa3_2⟩]) ++ ⟨.slice pa4 na4 qa4, strs (markStr a4 ((((((K + 1) + 1) + 1) + 1) + 1) + (Typ.cntL a3_2 : Nat))), Fa4⟩ :: ([⟨.slice pa5 na5 qa5, Term.sl a5, Fa5⟩] ++ T3)) [strs (markStr a4 ((((((K + 1) + 1) + 1) + 1) + 1) + (Typ.cntL a3_2 : Nat)))] (.int .i64 (((((((K + 1) + 1) + 1) + 1) + 1) + (Typ.cntL a3_2 : Nat)) + (a4.length : Nat))) ?_ ?_ ?_ ?_ ?_
      · exact markStringS a4 ((((((K + 1) + 1) + 1) + 1) + 1) + (Typ.cntL a3_2 : Nat)) (by omega) (by omega) (.slice pa4 na4 qa4) Fa4
      · simp
      · have := permT (T1 ++ [⟨.slice pa3_2 na3_2 qa3_2, Typ.sl (Typ.markL a3_2 (((((K + 1) + 1) + 1) + 1) + 1)), Fa3_2⟩]) ([⟨.slice pa5 na5 qa5, Term.sl a5, Fa5⟩] ++ T3) ⟨.slice pa4 na4 qa4, strs a4, Fa4⟩
        simp only [List.append_assoc, List.cons_append, List.nil_append, go_sem] at this ⊢; exact this
      · simp only [upT]; exact permT _ _ _
      simp only [h5, e0, e1, hH, hkl, ft0, fd0, ftj, fdj, Nat.add_assoc, List.append_assoc, List.cons_append, go_sem, ↓reduceIte, reduceCtorEq, reduceLT, reduceEqDiff, Nat.reduceBEq, reduceAdd, reduceMul, reduceSub, reduceLeDiff, reduceReplicate]
      refine callK_mark [⟨.slice pa5 na5 qa5, Term.sl a5, Fa5⟩] ((T1 ++ [⟨.slice pa3_2 na3_2 qa3_2, Typ.sl (Typ.markL a3_2 (((((K + 1) + 1) + 1) + 1) + 1)), Fa3_2⟩, ⟨.slice pa4 na4 qa4, strs (markStr a4 ((((((K + 1) + 1) + 1) + 1) + 1) + (Typ.cntL a3_2 : Nat))), Fa4⟩]) ++ T3) ((T1 ++ [⟨.slice pa3_2 na3_2 qa3_2, Typ.sl (Typ.markL a3_2 (((((K + 1) + 1) + 1) + 1) + 1)), Fa3_2⟩, ⟨.slice pa4 na4 qa4, strs (markStr a4 ((((((K + 1) + 1) + 1) + 1) + 1) + (Typ.cntL a3_2 : Nat))), Fa4⟩]) ++ ⟨.slice pa5 na5 qa5, Term.sl (Term.markL a5 (((((((K + 1) + 1) + 1) + 1) + 1) + (Typ.cntL a3_2 : Nat)) + (a4.length : Nat))), Fa5⟩ :: T3) [Term.sl (Term.markL a5 (((((((K + 1) + 1) + 1) + 1) + 1) + (Typ.cntL a3_2 : Nat)) + (a4.length : Nat)))] (.int .i64 ((((((((K + 1) + 1) + 1) + 1) + 1) + (Typ.cntL a3_2 : Nat)) + (a4.length : Nat)) + (Term.cntL a5 : Nat))) ?_ ?_ ?_ ?_ ?_
      · exact markTermS a5 (((((((K + 1) + 1) + 1) + 1) + 1) + (Typ.cntL a3_2 : Nat)) + (a4.length : Nat)) (by omega) (by omega) (.slice pa5 na5 qa5) Fa5
      · simp
      · have := permT (T1 ++ [⟨.slice pa3_2 na3_2 qa3_2, Typ.sl (Typ.markL a3_2 (((((K + 1) + 1) + 1) + 1) + 1)), Fa3_2⟩, ⟨.slice pa4 na4 qa4, strs (markStr a4 ((((((K + 1) + 1) + 1) + 1) + 1) + (Typ.cntL a3_2 : Nat))), Fa4⟩]) T3 ⟨.slice pa5 na5 qa5, Term.sl a5, Fa5⟩
        simp only [List.append_assoc, List.cons_append, List.nil_append, go_sem] at this ⊢; exact this
      · simp only [upT]; exact permT _ _ _
      simp only [h5, e0, e1, hH, hkl, ft0, fd0, ftj, fdj, Nat.add_assoc, List.append_assoc, List.cons_append, go_sem, ↓reduceIte, reduceCtorEq, reduceLT, reduceEqDiff, Nat.reduceBEq, reduceAdd, reduceMul, reduceSub, reduceLeDiff, reduceReplicate]
      refine nextC_mk (by simp [setE, wrap_succ i (by omega)]) hlt ⟨rfl, ?_, rfl, ?_, _, ?_, rfl⟩
      · simp only [List.forall_mem_cons, setE, ↓reduceIte, Nat.reduceEqDiff, e0, List.not_mem_nil, false_implies, implies_true, and_true, true_and]
        exact congrArg (fun n => D.sc (.int .i64 n)) (by omega)
      · rw [← hT]
        simp [bl]
      · rw [hmk, List.append_assoc]
        simp only [Term.mark, Typ.mark, Term.ds, Typ.ds, go_sem, List.cons_append, List.nil_append, List.append_assoc]
        refine o1.app ?_
        repeat first | exact o3 | apply OL.sc' | apply OL.tr'
    · have hi' : i = l.length := by simp at h; omega
      subst hi'
      simp only [h, e1, go_sem, ↓reduceIte, reduceCtorEq, reduceLT, reduceEqDiff, Nat.reduceBEq, reduceAdd, reduceMul, reduceSub, reduceLeDiff, reduceReplicate, retM_ret, retM_normal, resD_one, resOne]
      rw [List.take_length] at hcs ⊢
      first | exact ⟨_, hH, rfl, rfl, rfl, by simpa [Term.dsL_eq] using hcs, hT⟩ | exact ⟨rfl, ⟨_, hH, rfl, rfl, rfl, by simpa [Term.dsL_eq] using hcs, hT⟩⟩
termination_by l
decreasing_by all_goals (have := List.sizeOf_lt_of_mem hmem; simp at this; omega)
theorem markDefS (l : List Def) (k : Int) (h0 : 0 ≤ k) (h1 : k + (Def.cntL l : Nat) ≤ 1099511627776) (u : Value) (F : List Nat) : SpG Tryz.prog 41 [.sc u, I k] [⟨u, Def.sl l, F⟩] [Def.sl (Def.markL l k)] (I (k + (Def.cntL l : Nat))) := by
  have hdl : (Def.dsL l).length = l.length := Def.dsL_len l
  have hLL : l.length ≤ Def.cntL l := by
    clear h1 h0 hdl
    induction l with
    | nil => simp
    | cons c l ih => obtain ⟨a0, ⟨a1_0, a1_1, a1_2⟩, ⟨a2_0, a2_1, a2_2, ⟨a2_3_0, a2_3_1, a2_3_2⟩, a2_4, a2_5⟩⟩ := c; simp only [List.length_cons, Def.cntL, Def.cnt, Term.cnt, Typ.cnt]; omega
  unfold Def.sl
  refine SpM.of_vc [] [.tmp 4] Tryz.func41 rfl (by kernel_rfl) Tryz.ntmps41 rfl (by simp) ?_ ?_ ?_ ?_ u F
  · simp [Def.dsL_len, Def.markL_len]
  · exact Def.rows_len _
  · intro h T
    have hn : l = [] := by rw [Def.dsL_eq] at h; simpa using h
    subst hn
    simp only [go_sem, ↓reduceIte, reduceCtorEq, reduceLT, reduceEqDiff, Nat.reduceBEq, reduceAdd, reduceMul, reduceSub, reduceLeDiff, reduceReplicate]
    refine loop_count 5 0 (fun _ => Fw.InvT 115 [(0, .sl 12 []), (1, I k)] fun _ _ T' => T' = T) rfl ⟨rfl, by simp [envOf, setE], rfl⟩ ?_
    rintro i ⟨env, H, n, nt, T'⟩ hi h5 ⟨rfl, hfs, hT⟩
    simp only [List.forall_mem_cons] at h5 hfs hT
    obtain ⟨e0, e1, -⟩ := hfs
    have hi0 : i = 0 := by omega
    subst hi0; subst hT
    simp only [h5, e0, e1, go_sem, ↓reduceIte, reduceCtorEq, reduceLT, reduceEqDiff, Nat.reduceBEq, reduceAdd, reduceMul, reduceSub, reduceLeDiff, reduceReplicate, Int.lt_irrefl, decide_false, retN_ret, retN_normal, resD_one, resOne]
    simp [Def.cntL]
  · intro _ e cells T hcs0
    simp only [hdl, go_sem, ↓reduceIte, reduceCtorEq, reduceLT, reduceEqDiff, Nat.reduceBEq, reduceAdd, reduceMul, reduceSub, reduceLeDiff, reduceReplicate]
    refine loop_count 5 l.length (fun i => Fw.InvT 115 [(0, .ms 0 0 l.length), (1, I (k + (Def.cntL (l.take i) : Nat)))] fun H n T' => n = bump noN 0 ∧ bl T' = bl T ∧ ∃ cs, OL O1 ((Def.dsL (Def.markL (l.take i) k)).flatten ++ (Def.dsL (l.drop i)).flatten) cs T' ∧ H 0 = some ⟨0, e, 12, cs, none⟩) rfl ⟨rfl, by simp [envOf, setE, Def.cntL], rfl, rfl, cells, by simpa [Def.markL, Def.dsL_eq] using hcs0, by simp [upd]⟩ ?_
    rintro i ⟨env, H, n, nt, T'⟩ hi h5 ⟨rfl, hfs, hn, hT, cs, hcs, hH⟩
    simp only [List.forall_mem_cons] at h5 hfs hn hT hcs hH
    subst hn
    obtain ⟨e0, e1, -⟩ := hfs
    simp only [h5, e0, e1, go_sem, ↓reduceIte, reduceCtorEq, reduceLT, reduceEqDiff, Nat.reduceBEq, reduceAdd, reduceMul, reduceSub, reduceLeDiff, reduceReplicate]
    refine condK_split (fun h => ?_) (fun h => ?_)
    · have hlt : i < l.length := by simpa using h
      have hkl : ((i : Int) < (l.length : Int)) = True := eq_true (by omega)
      have hdr : (Def.dsL (l.drop i)).flatten = (l[i]).ds ++ (Def.dsL (l.drop (i + 1))).flatten := by
        rw [Def.dsL_eq, Def.dsL_eq, List.drop_eq_getElem_cons hlt, List.map_cons, List.flatten_cons]
      have hmk : (Def.dsL (Def.markL (l.take (i + 1)) k)).flatten = (Def.dsL (Def.markL (l.take i) k)).flatten ++ ((l[i]).mark (k + (Def.cntL (l.take i) : Nat))).ds := by
        rw [List.take_succ_eq_append_getElem hlt, Def.markL_app, Def.dsL_eq, Def.dsL_eq]; simp [Def.markL]
      have hct := Def.cntL_take l i hlt
      have hcl := Def.cntL_le l (i + 1)
      have hmem : l[i] ∈ l := List.getElem_mem hlt
      rw [hdr] at hcs
      generalize hxx : l[i] = xx at hct hmk hcs hmem
      generalize hK : k + ((Def.cntL (l.take i) : Nat) : Int) = K at *
      obtain ⟨a0, ⟨a1_0, a1_1, a1_2⟩, ⟨a2_0, a2_1, a2_2, ⟨a2_3_0, a2_3_1, a2_3_2⟩, a2_4, a2_5⟩⟩ := xx
      simp only [Def.cnt, Term.cnt, Typ.cnt] at hct
      obtain ⟨c1, d1, T1, T2, rfl, rfl, o1, o2⟩ := OL.split _ hcs
      obtain ⟨cx, c2, Tx, T3, rfl, rfl, ox, o3⟩ := OL.split _ o2
      simp only [Def.ds, Term.ds, Typ.ds, go_sem, List.cons_append, List.nil_append, ol_sc, ol_sl, ol_nil] at ox
      obtain ⟨_, rfl, ⟨_, rfl, ⟨_, rfl, ⟨pa1_2, na1_2, qa1_2, Fa1_2, _, _, rfl, rfl, ⟨_, rfl, ⟨_, rfl, ⟨_, rfl, ⟨_, rfl, ⟨_, rfl, ⟨pa2_3_2, na2_3_2, qa2_3_2, Fa2_3_2, _, _, rfl, rfl, ⟨pa2_4, na2_4, qa2_4, Fa2_4, _, _, rfl, rfl, ⟨pa2_5, na2_5, qa2_5, Fa2_5, _, _, rfl, rfl, ⟨rfl, rfl⟩⟩⟩⟩⟩⟩⟩⟩⟩⟩⟩⟩⟩ := ox
      have hc1 : c1.length = i * 12 := by
        rw [o1.len, flatten_len (Def.rows_len _), Def.dsL_len, Def.markL_len, List.length_take, Nat.min_eq_left (Nat.le_of_lt hlt)]
      have ft0 : ∀ r : List D, (c1 ++ r).take (i * 12) = c1 := fun r => by rw [← hc1, List.take_left]
      have fd0 : ∀ r : List D, (c1 ++ r).drop (i * 12) = r := fun r => by rw [← hc1, List.drop_left]
      have ftj : ∀ (r : List D) (j : Nat), (c1 ++ r).take (i * 12 + j) = c1 ++ r.take j := fun r j => by rw [← hc1, List.take_length_add_append]
      have fdj : ∀ (r : List D) (j : Nat), (c1 ++ r).drop (i * 12 + j) = r.drop j := fun r j => by rw [← hc1, ← List.drop_drop, List.drop_left]
      simp only [h, h5, e0, e1, hH, hkl, ft0, fd0, ftj, fdj, Nat.add_assoc, List.append_assoc, List.cons_append, go_sem, ↓reduceIte, reduceCtorEq, reduceLT, reduceEqDiff, Nat.reduceBEq, reduceAdd, reduceMul, reduceSub, reduceLeDiff, reduceReplicate]
      have w0 : IntKind.i64.wrap (K + 1) = K + 1 := Go.IntWalk.i64_in _ (by omega)
      refine callK_intro _ (markText K (by omega) (by omega)) (by simp) ?_
      simp only [h5, e0, e1, hH, hkl, ft0, fd0, ftj, fdj, Nat.add_assoc, List.append_assoc, List.cons_append, go_sem, ↓reduceIte, reduceCtorEq, reduceLT, reduceEqDiff, Nat.reduceBEq, reduceAdd, reduceMul, reduceSub, reduceLeDiff, reduceReplicate]
      refine ⟨by simp; omega, ?_⟩
      simp only [h5, e0, e1, hH, hkl, ft0, fd0, ftj, fdj, Nat.add_assoc, List.append_assoc, List.cons_append, w0, go_sem, ↓reduceIte, reduceCtorEq, reduceLT, reduceEqDiff, Nat.reduceBEq, reduceAdd, reduceMul, reduceSub, reduceLeDiff, reduceReplicate]
      have w1 : IntKind.i64.wrap ((K + 1) + 1) = (K + 1) + 1 := Go.IntWalk.i64_in _ (by omega)
      refine ⟨by simp; omega, ?_⟩
      simp only [h5, e0, e1, hH, hkl, ft0, fd0, ftj, fdj, Nat.add_assoc, List.append_assoc, List.cons_append, w1, go_sem, ↓reduceIte, reduceCtorEq, reduceLT, reduceEqDiff, Nat.reduceBEq, reduceAdd, reduceMul, reduceSub, reduceLeDiff, reduceReplicate]
      have w2 : IntKind.i64.wrap (((K + 1) + 1) + 1) = ((K + 1) + 1) + 1 := Go.IntWalk.i64_in _ (by omega)
      refine callK_intro _ (markText ((K + 1) + 1) (by omega) (by omega)) (by simp) ?_
      simp only [h5, e0, e1, hH, hkl, ft0, fd0, ftj, fdj, Nat.add_assoc, List.append_assoc, List.cons_append, go_sem, ↓reduceIte, reduceCtorEq, reduceLT, reduceEqDiff, Nat.reduceBEq, reduceAdd, reduceMul, reduceSub, reduceLeDiff, reduceReplicate]
      refine ⟨by simp; omega, ?_⟩
      simp only [h5, e0, e1, hH, hkl, ft0, fd0, ftj, fdj, Nat.add_assoc, List.append_assoc, List.cons_append, w2, go_sem, ↓reduceIte, reduceCtorEq, reduceLT, reduceEqDiff, Nat.reduceBEq, reduceAdd, reduceMul, reduceSub, reduceLeDiff, reduceReplicate]
      refine callK_mark [⟨.slice pa1_2 na1_2 qa1_2, Typ.sl a1_2, Fa1_2⟩] (T1 ++ ([⟨.slice pa2_3_2 na2_3_2 qa2_3_2, Typ.sl a2_3_2, Fa2_3_2⟩, ⟨.slice pa2_4 na2_4 qa2_4, strs a2_4, Fa2_4⟩, ⟨.slice pa2_5 na2_5 qa2_5, Term.sl a2_5, Fa2_5⟩] ++ T3)) (T1 ++ ⟨.slice pa1_2 na1_2 qa1_2, Typ.sl (Typ.markL a1_2 (((K + 1) + 1) + 1)), Fa1_2⟩ :: ([⟨.slice pa2_3_2 na2_3_2 qa2_3_2, Typ.sl a2_3_2, Fa2_3_2⟩, ⟨.slice pa2_4 na2_4 qa2_4, strs a2_4, Fa2_4⟩, ⟨.slice pa2_5 na2_5 qa2_5, Term.sl a2_5, Fa2_5⟩] ++ T3)) [Typ.sl (Typ.markL a1_2 (((K + 1) + 1) + 1))] (.int .i64 ((((K + 1) + 1) + 1) + (Typ.cntL a1_2 : Nat))) ?_ ?_ ?_ ?_ ?_
      · exact markTypeS a1_2 (((K + 1) + 1) + 1) (by omega) (by omega) (.slice pa1_2 na1_2 qa1_2) Fa1_2
      · simp
      · have := permT T1 ([⟨.slice pa2_3_2 na2_3_2 qa2_3_2, Typ.sl a2_3_2, Fa2_3_2⟩, ⟨.slice pa2_4 na2_4 qa2_4, strs a2_4, Fa2_4⟩, ⟨.slice pa2_5 na2_5 qa2_5, Term.sl a2_5, Fa2_5⟩] ++ T3) ⟨.slice pa1_2 na1_2 qa1_2, Typ.sl a1_2, Fa1_2⟩
        simp only [List.append_assoc, List.cons_append, List.nil_append, go_sem] at this ⊢; exact this
      · simp only [upT]; exact permT _ _ _
      simp only [h5, e0, e1, hH, hkl, ft0, fd0, ftj, fdj, Nat.add_assoc, List.append_assoc, List.cons_append, go_sem, ↓reduceIte, reduceCtorEq, reduceLT, reduceEqDiff, Nat.reduceBEq, reduceAdd, reduceMul, reduceSub, reduceLeDiff, reduceReplicate]
      have w4 : IntKind.i64.wrap (((((K + 1) + 1) + 1) + (Typ.cntL a1_2 : Nat)) + 1) = ((((K + 1) + 1) + 1) + (Typ.cntL a1_2 : Nat)) + 1 := Go.IntWalk.i64_in _ (by omega)
      refine ⟨by simp; omega, ?_⟩
      simp only [h5, e0, e1, hH, hkl, ft0, fd0, ftj, fdj, Nat.add_assoc, List.append_assoc, List.cons_append, w4, go_sem, ↓reduceIte, reduceCtorEq, reduceLT, reduceEqDiff, Nat.reduceBEq, reduceAdd, reduceMul, reduceSub, reduceLeDiff, reduceReplicate]
      have w5 : IntKind.i64.wrap ((((((K + 1) + 1) + 1) + (Typ.cntL a1_2 : Nat)) + 1) + 1) = (((((K + 1) + 1) + 1) + (Typ.cntL a1_2 : Nat)) + 1) + 1 := Go.IntWalk.i64_in _ (by omega)
      refine ⟨by simp; omega, ?_⟩
      simp only [h5, e0, e1, hH, hkl, ft0, fd0, ftj, fdj, Nat.add_assoc, List.append_assoc, List.cons_append, w5, go_sem, ↓reduceIte, reduceCtorEq, reduceLT, reduceEqDiff, Nat.reduceBEq, reduceAdd, reduceMul, reduceSub, reduceLeDiff, reduceReplicate]
      have w6 : IntKind.i64.wrap (((((((K + 1) + 1) + 1) + (Typ.cntL a1_2 : Nat)) + 1) + 1) + 1) = ((((((K + 1) + 1) + 1) + (Typ.cntL a1_2 : Nat)) + 1) + 1) + 1 := Go.IntWalk.i64_in _ (by omega)
      refine callK_intro _ (markText ((((((K + 1) + 1) + 1) + (Typ.cntL a1_2 : Nat)) + 1) + 1) (by omega) (by omega)) (by simp) ?_
      simp only [h5, e0, e1, hH, hkl, ft0, fd0, ftj, fdj, Nat.add_assoc, List.append_assoc, List.cons_append, go_sem, ↓reduceIte, reduceCtorEq, reduceLT, reduceEqDiff, Nat.reduceBEq, reduceAdd, reduceMul, reduceSub, reduceLeDiff, reduceReplicate]
      refine ⟨by simp; omega, ?_⟩
      simp only [h5, e0, e1, hH, hkl, ft0, fd0, ftj, fdj, Nat.add_assoc, List.append_assoc, List.cons_append, w6, go_sem, ↓reduceIte, reduceCtorEq, reduceLT, reduceEqDiff, Nat.reduceBEq, reduceAdd, reduceMul, reduceSub, reduceLeDiff, reduceReplicate]
      have w7 : IntKind.i64.wrap ((((((((K + 1) + 1) + 1) + (Typ.cntL a1_2 : Nat)) + 1) + 1) + 1) + 1) = (((((((K + 1) + 1) + 1) + (Typ.cntL a1_2 : Nat)) + 1) + 1) + 1) + 1 := Go.IntWalk.i64_in _ (by omega)
      refine ⟨by simp; omega, ?_⟩
      simp only [h5, e0, e1, hH, hkl, ft0, fd0, ftj, fdj, Nat.add_assoc, List.append_assoc, List.cons_append, w7, go_sem, ↓reduceIte, reduceCtorEq, reduceLT, reduceEqDiff, Nat.reduceBEq, reduceAdd, reduceMul, reduceSub, reduceLeDiff, reduceReplicate]
      have w8 : IntKind.i64.wrap (((((((((K + 1) + 1) + 1) + (Typ.cntL a1_2 : Nat)) + 1) + 1) + 1) + 1) + 1) = ((((((((K + 1) + 1) + 1) + (Typ.cntL a1_2 : Nat)) + 1) + 1) + 1) + 1) + 1 := Go.IntWalk.i64_in _ (by omega)
      refine callK_intro _ (markText ((((((((K + 1) + 1) + 1) + (Typ.cntL a1_2 : Nat)) + 1) + 1) + 1) + 1) (by omega) (by omega)) (by simp) ?_
      simp only [h5, e0, e1, hH, hkl, ft0, fd0, ftj, fdj, Nat.add_assoc, List.append_assoc, List.cons_append, go_sem, ↓reduceIte, reduceCtorEq, reduceLT, reduceEqDiff, Nat.reduceBEq, reduceAdd, reduceMul, reduceSub, reduceLeDiff, reduceReplicate]
      refine ⟨by simp; omega, ?_⟩
      simp only [h5, e0, e1, hH, hkl, ft0, fd0, ftj, fdj, Nat.add_assoc, List.append_assoc, List.cons_append, w8, go_sem, ↓reduceIte, reduceCtorEq, reduceLT, reduceEqDiff, Nat.reduceBEq, reduceAdd, reduceMul, reduceSub, reduceLeDiff, reduceReplicate]
      refine callK_mark [⟨.slice pa2_3_2 na2_3_2 qa2_3_2, Typ.sl a2_3_2, Fa2_3_2⟩] ((T1 ++ [⟨.slice pa1_2 na1_2 qa1_2, Typ.sl (Typ.markL a1_2 (((K + 1) + 1) + 1)), Fa1_2⟩]) ++ ([⟨.slice pa2_4 na2_4 qa2_4, strs a2_4, Fa2_4⟩, ⟨.slice pa2_5 na2_5 qa2_5, Term.sl a2_5, Fa2_5⟩] ++ T3)) ((T1 ++ [⟨.slice pa1_2 na1_2 qa1_2, Typ.sl (Typ.markL a1_2 (((K + 1) + 1) + 1)), Fa1_2⟩]) ++ ⟨.slice pa2_3_2 na2_3_2 qa2_3_2, Typ.sl (Typ.markL a2_3_2 (((((((((K + 1) + 1) + 1) + (Typ.cntL a1_2 : Nat)) + 1) + 1) + 1) + 1) + 1)), Fa2_3_2⟩ :: ([⟨.slice pa2_4 na2_4 qa2_4, strs a2_4, Fa2_4⟩, ⟨.slice pa2_5 na2_5 qa2_5, Term.sl a2_5, Fa2_5⟩] ++ T3)) [Typ.sl (Typ.markL a2_3_2 (((((((((K + 1) + 1) + 1) + (Typ.cntL a1_2 : Nat)) + 1) + 1) + 1) + 1) + 1))] (.int .i64 ((((((((((K + 1) + 1) + 1) + (Typ.cntL a1_2 : Nat)) + 1) + 1) + 1) + 1) + 1) + (Typ.cntL a2_3_2 : Nat))) ?_ ?_ ?_ ?_ ?_
      · exact markTypeS a2_3_2 (((((((((K + 1) + 1) + 1) + (Typ.cntL a1_2 : Nat)) + 1) + 1) + 1) + 1) + 1) (by omega) (by omega) (.slice pa2_3_2 na2_3_2 qa2_3_2) Fa2_3_2
      · simp
      · have := permT (T1 ++ [⟨.slice pa1_2 na1_2 qa1_2, Typ.sl (Typ.markL a1_2 (((K + 1) + 1) + 1)), Fa1_2⟩]) ([⟨.slice pa2_4 na2_4 qa2_4, strs a2_4, Fa2_4⟩, ⟨.slice pa2_5 na2_5 qa2_5, Term.sl a2_5, Fa2_5⟩] ++ T3) ⟨.slice pa2_3_2 na2_3_2 qa2_3_2, Typ.sl a2_3_2, Fa2_3_2⟩
        simp only [List.append_assoc, List.cons_append, List.nil_append, go_sem] at this ⊢; exact this
      · simp only [upT]; exact permT _ _ _
      simp only [h5, e0, e1, hH, hkl, ft0, fd0, ftj, fdj, Nat.add_assoc, List.append_assoc, List.cons_append, go_sem, ↓reduceIte, reduceCtorEq, reduceLT, reduceEqDiff, Nat.reduceBEq, reduceAdd, reduceMul, reduceSub, reduceLeDiff, reduceReplicate]
      refine callK_mark [⟨.slice pa2_4 na2_4 qa2_4, strs a2_4, Fa2_4⟩] ((T1 ++ [⟨.slice pa1_2 na1_2 qa1_2, Typ.sl (Typ.markL a1_2 (((K + 1) + 1) + 1)), Fa1_2⟩, ⟨.slice pa2_3_2 na2_3_2 qa2_3_2, Typ.sl (Typ.markL a2_3_2 (((((((((K + 1) + 1) + 1) + (Typ.cntL a1_2 : Nat)) + 1) + 1) + 1) + 1) + 1)), Fa2_3_2⟩]) ++ ([⟨.slice pa2_5 na2_5 qa2_5, Term.sl a2_5, Fa2_5⟩] ++ T3)) ((T1 ++ [⟨.slice pa1_2 na1_2 qa1_2, Typ.sl (Typ.markL a1_2 (((K + 1) + 1) + 1)), Fa1_2⟩, ⟨.slice pa2_3_2 na2_3_2 qa2_3_2, Typ.sl (Typ.markL a2_3_2 (((((((((K + 1) + 1) + 1) + (Typ.cntL a1_2 : Nat)) + 1) + 1) + 1) + 1) + 1)), Fa2_3_2⟩]) ++ ⟨.slice pa2_4 na2_4 qa2_4, strs (markStr a2_4 ((((((((((K + 1) + 1) + 1) + (Typ.cntL a1_2 : Nat)) + 1) + 1) + 1) + 1) + 1) + (Typ.cntL a2_3_2 : Nat))), Fa2_4⟩ :: ([⟨.slice pa2_5 na2_5 qa2_5, Term.sl a2_5, Fa2_5⟩] ++ T3)) [strs (markStr a2_4 ((((((((((K + 1) + 1) + 1) + (Typ.cntL a1_2 : Nat)) + 1) + 1) + 1) + 1) + 1) + (Typ.cntL a2_3_2 : Nat)))] (.int .i64 (((((((((((K + 1) + 1) + 1) + (Typ.cntL a1_2 : Nat)) + 1) + 1) + 1) + 1) + 1) + (Typ.cntL a2_3_2 : Nat)) + (a2_4.length : Nat))) ?_ ?_ ?_ ?_ ?_
      · exact markStringS a2_4 ((((((((((K + 1) + 1) + 1) + (Typ.cntL a1_2 : Nat)) + 1) + 1) + 1) + 1) + 1) + (Typ.cntL a2_3_2 : Nat)) (by omega) (by omega) (.slice pa2_4 na2_4 qa2_4) Fa2_4
      · simp
      · have := permT (T1 ++ [⟨.slice pa1_2 na1_2 qa1_2, Typ.sl (Typ.markL a1_2 (((K + 1) + 1) + 1)), Fa1_2⟩, ⟨.slice pa2_3_2 na2_3_2 qa2_3_2, Typ.sl (Typ.markL a2_3_2 (((((((((K + 1) + 1) + 1) + (Typ.cntL a1_2 : Nat)) + 1) + 1) + 1) + 1) + 1)), Fa2_3_2⟩]) ([⟨.slice pa2_5 na2_5 qa2_5, Term.sl a2_5, Fa2_5⟩] ++ T3) ⟨.slice pa2_4 na2_4 qa2_4, strs a2_4, Fa2_4⟩
        simp only [List.append_assoc, List.cons_append, List.nil_append, go_sem] at this ⊢; exact this
      · simp only [upT]; exact permT _ _ _
      simp only [h5, e0, e1, hH, hkl, ft0, fd0, ftj, fdj, Nat.add_assoc, List.append_assoc, List.cons_append, go_sem, ↓reduceIte, reduceCtorEq, reduceLT, reduceEqDiff, Nat.reduceBEq, reduceAdd, reduceMul, reduceSub, reduceLeDiff, reduceReplicate]
      refine callK_mark [⟨.slice pa2_5 na2_5 qa2_5, Term.sl a2_5, Fa2_5⟩] ((T1 ++ [⟨.slice pa1_2 na1_2 qa1_2, Typ.sl (Typ.markL a1_2 (((K + 1) + 1) + 1)), Fa1_2⟩, ⟨.slice pa2_3_2 na2_3_2 qa2_3_2, Typ.sl (Typ.markL a2_3_2 (((((((((K + 1) + 1) + 1) + (Typ.cntL a1_2 : Nat)) + 1) + 1) + 1) + 1) + 1)), Fa2_3_2⟩, ⟨.slice pa2_4 na2_4 qa2_4, strs (markStr a2_4 ((((((((((K + 1) + 1) + 1) + (Typ.cntL a1_2 : Nat)) + 1) + 1) + 1) + 1) + 1) + (Typ.cntL a2_3_2 : Nat))), Fa2_4⟩]) ++ T3) ((T1 ++ [⟨.slice pa1_2 na1_2 qa1_2, Typ.sl (Typ.markL a1_2 (((K + 1) + 1) + 1)), Fa1_2⟩, ⟨.slice pa2_3_2 na2_3_2 qa2_3_2, Typ.sl (Typ.markL a2_3_2 (((((((((K + 1) + 1) + 1) + (Typ.cntL a1_2 : Nat)) + 1) + 1) + 1) + 1) + 1)), Fa2_3_2⟩, ⟨.slice pa2_4 na2_4 qa2_4, strs (markStr a2_4 ((((((((((K + 1) + 1) + 1) + (Typ.cntL a1_2 : Nat)) + 1) + 1) + 1) + 1) + 1) + (Typ.cntL a2_3_2 : Nat))), Fa2_4⟩]) ++ ⟨.slice pa2_5 na2_5 qa2_5, Term.sl (Term.markL a2_5 (((((((((((K + 1) + 1) + 1) + (Typ.cntL a1_2 : Nat)) + 1) + 1) + 1) + 1) + 1) + (Typ.cntL a2_3_2 : Nat)) + (a2_4.length : Nat))), Fa2_5⟩ :: T3) [Term.sl (Term.markL a2_5 (((((((((((K + 1) + 1) + 1) + (Typ.cntL a1_2 : Nat)) + 1) + 1) + 1) + 1) + 1) + (Typ.cntL a2_3_2 : Nat)) + (a2_4.length : Nat)))] (.int .i64 ((((((((((((K + 1) + 1) + 1) + (Typ.cntL a1_2 : Nat)) + 1) + 1) + 1) + 1) + 1) + (Typ.cntL a2_3_2 : Nat)) + (a2_4.length : Nat)) + (Term.cntL a2_5 : Nat))) ?_ ?_ ?_ ?_ ?_
      · exact markTermS a2_5 (((((((((((K + 1) + 1) + 1) + (Typ.cntL a1_2 : Nat)) + 1) + 1) + 1) + 1) + 1) + (Typ.cntL a2_3_2 : Nat)) + (a2_4.length : Nat)) (by omega) (by omega) (.slice pa2_5 na2_5 qa2_5) Fa2_5
      · simp
      · have := permT (T1 ++ [⟨.slice pa1_2 na1_2 qa1_2, Typ.sl (Typ.markL a1_2 (((K + 1) + 1) + 1)), Fa1_2⟩, ⟨.slice pa2_3_2 na2_3_2 qa2_3_2, Typ.sl (Typ.markL a2_3_2 (((((((((K + 1) + 1) + 1) + (Typ.cntL a1_2 : Nat)) + 1) + 1) + 1) + 1) + 1)), Fa2_3_2⟩, ⟨.slice pa2_4 na2_4 qa2_4, strs (markStr a2_4 ((((((((((K + 1) + 1) + 1) + (Typ.cntL a1_2 : Nat)) + 1) + 1) + 1) + 1) + 1) + (Typ.cntL a2_3_2 : Nat))), Fa2_4⟩]) T3 ⟨.slice pa2_5 na2_5 qa2_5, Term.sl a2_5, Fa2_5⟩
        simp only [List.append_assoc, List.cons_append, List.nil_append, go_sem] at this ⊢; exact this
      · simp only [upT]; exact permT _ _ _
      simp only [h5, e0, e1, hH, hkl, ft0, fd0, ftj, fdj, Nat.add_assoc, List.append_assoc, List.cons_append, go_sem, ↓reduceIte, reduceCtorEq, reduceLT, reduceEqDiff, Nat.reduceBEq, reduceAdd, reduceMul, reduceSub, reduceLeDiff, reduceReplicate]
      refine nextC_mk (by simp [setE, wrap_succ i (by omega)]) hlt ⟨rfl, ?_, rfl, ?_, _, ?_, rfl⟩
      · simp only [List.forall_mem_cons, setE, ↓reduceIte, Nat.reduceEqDiff, e0, List.not_mem_nil, false_implies, implies_true, and_true, true_and]
        exact congrArg (fun n => D.sc (.int .i64 n)) (by omega)
      · rw [← hT]
        simp [bl]
      · rw [hmk, List.append_assoc]
        simp only [Def.mark, Term.mark, Typ.mark, Def.ds, Term.ds, Typ.ds, go_sem, List.cons_append, List.nil_append, List.append_assoc]
        refine o1.app ?_
        repeat first | exact o3 | apply OL.sc' | apply OL.tr'
    · have hi' : i = l.length := by simp at h; omega
      subst hi'
      simp only [h, e1, go_sem, ↓reduceIte, reduceCtorEq, reduceLT, reduceEqDiff, Nat.reduceBEq, reduceAdd, reduceMul, reduceSub, reduceLeDiff, reduceReplicate, retM_ret, retM_normal, resD_one, resOne]
      rw [List.take_length] at hcs ⊢
      first | exact ⟨_, hH, rfl, rfl, rfl, by simpa [Def.dsL_eq] using hcs, hT⟩ | exact ⟨rfl, ⟨_, hH, rfl, rfl, rfl, by simpa [Def.dsL_eq] using hcs, hT⟩⟩
theorem markType (a0 : Int) (a1 : ByteArray) (a2 : List Typ) (k : Int) (h0 : 0 ≤ k) (h1 : k + (Typ.cntL a2 : Nat) ≤ 1099511627776) (pa2 : Option Addr) (na2 qa2 : Nat) (Fa2 : List Nat) :
    SpG Tryz.prog 42 [.ag [I a0, S a1, .sc (.slice pa2 na2 qa2)], I k] [⟨.slice pa2 na2 qa2, Typ.sl a2, Fa2⟩] [Typ.sl (Typ.markL a2 k)] (I (k + (Typ.cntL a2 : Nat))) := by
  refine SpG.of_vc [] [.tmp 4] Tryz.func42 rfl (by kernel_rfl) Tryz.ntmps42 rfl (by simp) rfl ?_
  simp only [go_sem, ↓reduceIte, reduceCtorEq, reduceLT, reduceEqDiff, Nat.reduceBEq, reduceAdd, reduceMul, reduceSub, reduceLeDiff, reduceReplicate]
  refine callK_mark [⟨.slice pa2 na2 qa2, Typ.sl a2, Fa2⟩] [] [⟨.slice pa2 na2 qa2, Typ.sl (Typ.markL a2 k), Fa2⟩] [Typ.sl (Typ.markL a2 k)] (.int .i64 (k + (Typ.cntL a2 : Nat))) ?_ ?_ ?_ ?_ ?_
  · exact markTypeS a2 k (by omega) (by omega) (.slice pa2 na2 qa2) Fa2
  · simp
  · have := permB ([] : List TE) [⟨.slice pa2 na2 qa2, Typ.sl a2, Fa2⟩] []
    simp only [List.append_assoc, List.cons_append, List.nil_append, go_sem] at this ⊢; exact this
  · have := permB ([] : List TE) [⟨.slice pa2 na2 qa2, Typ.sl (Typ.markL a2 k), Fa2⟩] []
    simp only [upT, List.append_assoc, List.cons_append, List.nil_append, go_sem] at this ⊢; exact this
  simp only [go_sem, ↓reduceIte, reduceCtorEq, reduceLT, reduceEqDiff, Nat.reduceBEq, reduceAdd, reduceMul, reduceSub, reduceLeDiff, reduceReplicate]
  exact ⟨[], [], .one (.one (.sc _)), by simp [upT, inls, go_sem], by simp [inrs]⟩
theorem markTerm (a0 : Int) (a1 : Int) (a2 : ByteArray) (a3_0 : Int) (a3_1 : ByteArray) (a3_2 : List Typ) (a4 : List ByteArray) (a5 : List Term) (k : Int) (h0 : 0 ≤ k) (h1 : k + (Typ.cntL a3_2 : Nat) + (a4.length : Nat) + (Term.cntL a5 : Nat) ≤ 1099511627776) (pa3_2 : Option Addr) (na3_2 qa3_2 : Nat) (Fa3_2 : List Nat) (pa4 : Option Addr) (na4 qa4 : Nat) (Fa4 : List Nat) (pa5 : Option Addr) (na5 qa5 : Nat) (Fa5 : List Nat) :
    SpG Tryz.prog 43 [.ag [I a0, I a1, S a2, I a3_0, S a3_1, .sc (.slice pa3_2 na3_2 qa3_2), .sc (.slice pa4 na4 qa4), .sc (.slice pa5 na5 qa5)], I k] [⟨.slice pa3_2 na3_2 qa3_2, Typ.sl a3_2, Fa3_2⟩, ⟨.slice pa4 na4 qa4, strs a4, Fa4⟩, ⟨.slice pa5 na5 qa5, Term.sl a5, Fa5⟩] [Typ.sl (Typ.markL a3_2 k), strs (markStr a4 (k + (Typ.cntL a3_2 : Nat))), Term.sl (Term.markL a5 ((k + (Typ.cntL a3_2 : Nat)) + (a4.length : Nat)))] (I (((k + (Typ.cntL a3_2 : Nat)) + (a4.length : Nat)) + (Term.cntL a5 : Nat))) := by
  refine SpG.of_vc [] [.tmp 4] Tryz.func43 rfl (by kernel_rfl) Tryz.ntmps43 rfl (by simp) rfl ?_
  simp only [go_sem, ↓reduceIte, reduceCtorEq, reduceLT, reduceEqDiff, Nat.reduceBEq, reduceAdd, reduceMul, reduceSub, reduceLeDiff, reduceReplicate]
  refine callK_mark [⟨.slice pa3_2 na3_2 qa3_2, Typ.sl a3_2, Fa3_2⟩] [⟨.slice pa4 na4 qa4, strs a4, Fa4⟩, ⟨.slice pa5 na5 qa5, Term.sl a5, Fa5⟩] [⟨.slice pa3_2 na3_2 qa3_2, Typ.sl (Typ.markL a3_2 k), Fa3_2⟩, ⟨.slice pa4 na4 qa4, strs a4, Fa4⟩, ⟨.slice pa5 na5 qa5, Term.sl a5, Fa5⟩] [Typ.sl (Typ.markL a3_2 k)] (.int .i64 (k + (Typ.cntL a3_2 : Nat))) ?_ ?_ ?_ ?_ ?_
  · exact markType a3_0 a3_1 a3_2 k (by omega) (by omega) pa3_2 na3_2 qa3_2 Fa3_2
  · simp
  · have := permB ([] : List TE) [⟨.slice pa3_2 na3_2 qa3_2, Typ.sl a3_2, Fa3_2⟩] [⟨.slice pa4 na4 qa4, strs a4, Fa4⟩, ⟨.slice pa5 na5 qa5, Term.sl a5, Fa5⟩]
    simp only [List.append_assoc, List.cons_append, List.nil_append, go_sem] at this ⊢; exact this
  · have := permB ([] : List TE) [⟨.slice pa3_2 na3_2 qa3_2, Typ.sl (Typ.markL a3_2 k), Fa3_2⟩] [⟨.slice pa4 na4 qa4, strs a4, Fa4⟩, ⟨.slice pa5 na5 qa5, Term.sl a5, Fa5⟩]
    simp only [upT, List.append_assoc, List.cons_append, List.nil_append, go_sem] at this ⊢; exact this
  simp only [go_sem, ↓reduceIte, reduceCtorEq, reduceLT, reduceEqDiff, Nat.reduceBEq, reduceAdd, reduceMul, reduceSub, reduceLeDiff, reduceReplicate]
  refine callK_mark [⟨.slice pa4 na4 qa4, strs a4, Fa4⟩] [⟨.slice pa3_2 na3_2 qa3_2, Typ.sl (Typ.markL a3_2 k), Fa3_2⟩, ⟨.slice pa5 na5 qa5, Term.sl a5, Fa5⟩] [⟨.slice pa3_2 na3_2 qa3_2, Typ.sl (Typ.markL a3_2 k), Fa3_2⟩, ⟨.slice pa4 na4 qa4, strs (markStr a4 (k + (Typ.cntL a3_2 : Nat))), Fa4⟩, ⟨.slice pa5 na5 qa5, Term.sl a5, Fa5⟩] [strs (markStr a4 (k + (Typ.cntL a3_2 : Nat)))] (.int .i64 ((k + (Typ.cntL a3_2 : Nat)) + (a4.length : Nat))) ?_ ?_ ?_ ?_ ?_
  · exact markStringS a4 (k + (Typ.cntL a3_2 : Nat)) (by omega) (by omega) (.slice pa4 na4 qa4) Fa4
  · simp
  · have := permB ([⟨.slice pa3_2 na3_2 qa3_2, Typ.sl (Typ.markL a3_2 k), Fa3_2⟩] : List TE) [⟨.slice pa4 na4 qa4, strs a4, Fa4⟩] [⟨.slice pa5 na5 qa5, Term.sl a5, Fa5⟩]
    simp only [List.append_assoc, List.cons_append, List.nil_append, go_sem] at this ⊢; exact this
  · have := permB ([⟨.slice pa3_2 na3_2 qa3_2, Typ.sl (Typ.markL a3_2 k), Fa3_2⟩] : List TE) [⟨.slice pa4 na4 qa4, strs (markStr a4 (k + (Typ.cntL a3_2 : Nat))), Fa4⟩] [⟨.slice pa5 na5 qa5, Term.sl a5, Fa5⟩]
    simp only [upT, List.append_assoc, List.cons_append, List.nil_append, go_sem] at this ⊢; exact this
  simp only [go_sem, ↓reduceIte, reduceCtorEq, reduceLT, reduceEqDiff, Nat.reduceBEq, reduceAdd, reduceMul, reduceSub, reduceLeDiff, reduceReplicate]
  refine callK_mark [⟨.slice pa5 na5 qa5, Term.sl a5, Fa5⟩] [⟨.slice pa3_2 na3_2 qa3_2, Typ.sl (Typ.markL a3_2 k), Fa3_2⟩, ⟨.slice pa4 na4 qa4, strs (markStr a4 (k + (Typ.cntL a3_2 : Nat))), Fa4⟩] [⟨.slice pa3_2 na3_2 qa3_2, Typ.sl (Typ.markL a3_2 k), Fa3_2⟩, ⟨.slice pa4 na4 qa4, strs (markStr a4 (k + (Typ.cntL a3_2 : Nat))), Fa4⟩, ⟨.slice pa5 na5 qa5, Term.sl (Term.markL a5 ((k + (Typ.cntL a3_2 : Nat)) + (a4.length : Nat))), Fa5⟩] [Term.sl (Term.markL a5 ((k + (Typ.cntL a3_2 : Nat)) + (a4.length : Nat)))] (.int .i64 (((k + (Typ.cntL a3_2 : Nat)) + (a4.length : Nat)) + (Term.cntL a5 : Nat))) ?_ ?_ ?_ ?_ ?_
  · exact markTermS a5 ((k + (Typ.cntL a3_2 : Nat)) + (a4.length : Nat)) (by omega) (by omega) (.slice pa5 na5 qa5) Fa5
  · simp
  · have := permB ([⟨.slice pa3_2 na3_2 qa3_2, Typ.sl (Typ.markL a3_2 k), Fa3_2⟩, ⟨.slice pa4 na4 qa4, strs (markStr a4 (k + (Typ.cntL a3_2 : Nat))), Fa4⟩] : List TE) [⟨.slice pa5 na5 qa5, Term.sl a5, Fa5⟩] []
    simp only [List.append_assoc, List.cons_append, List.nil_append, go_sem] at this ⊢; exact this
  · have := permB ([⟨.slice pa3_2 na3_2 qa3_2, Typ.sl (Typ.markL a3_2 k), Fa3_2⟩, ⟨.slice pa4 na4 qa4, strs (markStr a4 (k + (Typ.cntL a3_2 : Nat))), Fa4⟩] : List TE) [⟨.slice pa5 na5 qa5, Term.sl (Term.markL a5 ((k + (Typ.cntL a3_2 : Nat)) + (a4.length : Nat))), Fa5⟩] []
    simp only [upT, List.append_assoc, List.cons_append, List.nil_append, go_sem] at this ⊢; exact this
  simp only [go_sem, ↓reduceIte, reduceCtorEq, reduceLT, reduceEqDiff, Nat.reduceBEq, reduceAdd, reduceMul, reduceSub, reduceLeDiff, reduceReplicate]
  exact ⟨[], [], .one (.one (.sc _)), by simp [upT, inls, go_sem], by simp [inrs]⟩
theorem markDef (a0 : ByteArray) (a1_0 : Int) (a1_1 : ByteArray) (a1_2 : List Typ) (a2_0 : Int) (a2_1 : Int) (a2_2 : ByteArray) (a2_3_0 : Int) (a2_3_1 : ByteArray) (a2_3_2 : List Typ) (a2_4 : List ByteArray) (a2_5 : List Term) (k : Int) (h0 : 0 ≤ k) (h1 : k + (Typ.cntL a1_2 : Nat) + (Typ.cntL a2_3_2 : Nat) + (a2_4.length : Nat) + (Term.cntL a2_5 : Nat) ≤ 1099511627776) (pa1_2 : Option Addr) (na1_2 qa1_2 : Nat) (Fa1_2 : List Nat) (pa2_3_2 : Option Addr) (na2_3_2 qa2_3_2 : Nat) (Fa2_3_2 : List Nat) (pa2_4 : Option Addr) (na2_4 qa2_4 : Nat) (Fa2_4 : List Nat) (pa2_5 : Option Addr) (na2_5 qa2_5 : Nat) (Fa2_5 : List Nat) :
    SpG Tryz.prog 14 [.ag [S a0, I a1_0, S a1_1, .sc (.slice pa1_2 na1_2 qa1_2), I a2_0, I a2_1, S a2_2, I a2_3_0, S a2_3_1, .sc (.slice pa2_3_2 na2_3_2 qa2_3_2), .sc (.slice pa2_4 na2_4 qa2_4), .sc (.slice pa2_5 na2_5 qa2_5)], I k] [⟨.slice pa1_2 na1_2 qa1_2, Typ.sl a1_2, Fa1_2⟩, ⟨.slice pa2_3_2 na2_3_2 qa2_3_2, Typ.sl a2_3_2, Fa2_3_2⟩, ⟨.slice pa2_4 na2_4 qa2_4, strs a2_4, Fa2_4⟩, ⟨.slice pa2_5 na2_5 qa2_5, Term.sl a2_5, Fa2_5⟩] [Typ.sl (Typ.markL a1_2 k), Typ.sl (Typ.markL a2_3_2 (k + (Typ.cntL a1_2 : Nat))), strs (markStr a2_4 ((k + (Typ.cntL a1_2 : Nat)) + (Typ.cntL a2_3_2 : Nat))), Term.sl (Term.markL a2_5 (((k + (Typ.cntL a1_2 : Nat)) + (Typ.cntL a2_3_2 : Nat)) + (a2_4.length : Nat)))] (I ((((k + (Typ.cntL a1_2 : Nat)) + (Typ.cntL a2_3_2 : Nat)) + (a2_4.length : Nat)) + (Term.cntL a2_5 : Nat))) := by
  refine SpG.of_vc [] [.tmp 4] Tryz.func14 rfl (by kernel_rfl) Tryz.ntmps14 rfl (by simp) rfl ?_
  simp only [go_sem, ↓reduceIte, reduceCtorEq, reduceLT, reduceEqDiff, Nat.reduceBEq, reduceAdd, reduceMul, reduceSub, reduceLeDiff, reduceReplicate]
  refine callK_mark [⟨.slice pa1_2 na1_2 qa1_2, Typ.sl a1_2, Fa1_2⟩] [⟨.slice pa2_3_2 na2_3_2 qa2_3_2, Typ.sl a2_3_2, Fa2_3_2⟩, ⟨.slice pa2_4 na2_4 qa2_4, strs a2_4, Fa2_4⟩, ⟨.slice pa2_5 na2_5 qa2_5, Term.sl a2_5, Fa2_5⟩] [⟨.slice pa1_2 na1_2 qa1_2, Typ.sl (Typ.markL a1_2 k), Fa1_2⟩, ⟨.slice pa2_3_2 na2_3_2 qa2_3_2, Typ.sl a2_3_2, Fa2_3_2⟩, ⟨.slice pa2_4 na2_4 qa2_4, strs a2_4, Fa2_4⟩, ⟨.slice pa2_5 na2_5 qa2_5, Term.sl a2_5, Fa2_5⟩] [Typ.sl (Typ.markL a1_2 k)] (.int .i64 (k + (Typ.cntL a1_2 : Nat))) ?_ ?_ ?_ ?_ ?_
  · exact markType a1_0 a1_1 a1_2 k (by omega) (by omega) pa1_2 na1_2 qa1_2 Fa1_2
  · simp
  · have := permB ([] : List TE) [⟨.slice pa1_2 na1_2 qa1_2, Typ.sl a1_2, Fa1_2⟩] [⟨.slice pa2_3_2 na2_3_2 qa2_3_2, Typ.sl a2_3_2, Fa2_3_2⟩, ⟨.slice pa2_4 na2_4 qa2_4, strs a2_4, Fa2_4⟩, ⟨.slice pa2_5 na2_5 qa2_5, Term.sl a2_5, Fa2_5⟩]
    simp only [List.append_assoc, List.cons_append, List.nil_append, go_sem] at this ⊢; exact this
  · have := permB ([] : List TE) [⟨.slice pa1_2 na1_2 qa1_2, Typ.sl (Typ.markL a1_2 k), Fa1_2⟩] [⟨.slice pa2_3_2 na2_3_2 qa2_3_2, Typ.sl a2_3_2, Fa2_3_2⟩, ⟨.slice pa2_4 na2_4 qa2_4, strs a2_4, Fa2_4⟩, ⟨.slice pa2_5 na2_5 qa2_5, Term.sl a2_5, Fa2_5⟩]
    simp only [upT, List.append_assoc, List.cons_append, List.nil_append, go_sem] at this ⊢; exact this
  simp only [go_sem, ↓reduceIte, reduceCtorEq, reduceLT, reduceEqDiff, Nat.reduceBEq, reduceAdd, reduceMul, reduceSub, reduceLeDiff, reduceReplicate]
  refine callK_mark [⟨.slice pa2_3_2 na2_3_2 qa2_3_2, Typ.sl a2_3_2, Fa2_3_2⟩, ⟨.slice pa2_4 na2_4 qa2_4, strs a2_4, Fa2_4⟩, ⟨.slice pa2_5 na2_5 qa2_5, Term.sl a2_5, Fa2_5⟩] [⟨.slice pa1_2 na1_2 qa1_2, Typ.sl (Typ.markL a1_2 k), Fa1_2⟩] [⟨.slice pa1_2 na1_2 qa1_2, Typ.sl (Typ.markL a1_2 k), Fa1_2⟩, ⟨.slice pa2_3_2 na2_3_2 qa2_3_2, Typ.sl (Typ.markL a2_3_2 (k + (Typ.cntL a1_2 : Nat))), Fa2_3_2⟩, ⟨.slice pa2_4 na2_4 qa2_4, strs (markStr a2_4 ((k + (Typ.cntL a1_2 : Nat)) + (Typ.cntL a2_3_2 : Nat))), Fa2_4⟩, ⟨.slice pa2_5 na2_5 qa2_5, Term.sl (Term.markL a2_5 (((k + (Typ.cntL a1_2 : Nat)) + (Typ.cntL a2_3_2 : Nat)) + (a2_4.length : Nat))), Fa2_5⟩] [Typ.sl (Typ.markL a2_3_2 (k + (Typ.cntL a1_2 : Nat))), strs (markStr a2_4 ((k + (Typ.cntL a1_2 : Nat)) + (Typ.cntL a2_3_2 : Nat))), Term.sl (Term.markL a2_5 (((k + (Typ.cntL a1_2 : Nat)) + (Typ.cntL a2_3_2 : Nat)) + (a2_4.length : Nat)))] (.int .i64 ((((k + (Typ.cntL a1_2 : Nat)) + (Typ.cntL a2_3_2 : Nat)) + (a2_4.length : Nat)) + (Term.cntL a2_5 : Nat))) ?_ ?_ ?_ ?_ ?_
  · exact markTerm a2_0 a2_1 a2_2 a2_3_0 a2_3_1 a2_3_2 a2_4 a2_5 (k + (Typ.cntL a1_2 : Nat)) (by omega) (by omega) pa2_3_2 na2_3_2 qa2_3_2 Fa2_3_2 pa2_4 na2_4 qa2_4 Fa2_4 pa2_5 na2_5 qa2_5 Fa2_5
  · simp
  · have := permB ([⟨.slice pa1_2 na1_2 qa1_2, Typ.sl (Typ.markL a1_2 k), Fa1_2⟩] : List TE) [⟨.slice pa2_3_2 na2_3_2 qa2_3_2, Typ.sl a2_3_2, Fa2_3_2⟩, ⟨.slice pa2_4 na2_4 qa2_4, strs a2_4, Fa2_4⟩, ⟨.slice pa2_5 na2_5 qa2_5, Term.sl a2_5, Fa2_5⟩] []
    simp only [List.append_assoc, List.cons_append, List.nil_append, go_sem] at this ⊢; exact this
  · have := permB ([⟨.slice pa1_2 na1_2 qa1_2, Typ.sl (Typ.markL a1_2 k), Fa1_2⟩] : List TE) [⟨.slice pa2_3_2 na2_3_2 qa2_3_2, Typ.sl (Typ.markL a2_3_2 (k + (Typ.cntL a1_2 : Nat))), Fa2_3_2⟩, ⟨.slice pa2_4 na2_4 qa2_4, strs (markStr a2_4 ((k + (Typ.cntL a1_2 : Nat)) + (Typ.cntL a2_3_2 : Nat))), Fa2_4⟩, ⟨.slice pa2_5 na2_5 qa2_5, Term.sl (Term.markL a2_5 (((k + (Typ.cntL a1_2 : Nat)) + (Typ.cntL a2_3_2 : Nat)) + (a2_4.length : Nat))), Fa2_5⟩] []
    simp only [upT, List.append_assoc, List.cons_append, List.nil_append, go_sem] at this ⊢; exact this
  simp only [go_sem, ↓reduceIte, reduceCtorEq, reduceLT, reduceEqDiff, Nat.reduceBEq, reduceAdd, reduceMul, reduceSub, reduceLeDiff, reduceReplicate]
  exact ⟨[], [], .one (.one (.sc _)), by simp [upT, inls, go_sem], by simp [inrs]⟩
theorem markProgram (a0 : List Dat) (a1 : List Def) (k : Int) (h0 : 0 ≤ k) (h1 : k + (Dat.cntL a0 : Nat) + (Def.cntL a1 : Nat) ≤ 1099511627776) (pa0 : Option Addr) (na0 qa0 : Nat) (Fa0 : List Nat) (pa1 : Option Addr) (na1 qa1 : Nat) (Fa1 : List Nat) :
    SpG Tryz.prog 13 [.ag [.sc (.slice pa0 na0 qa0), .sc (.slice pa1 na1 qa1)], I k] [⟨.slice pa0 na0 qa0, Dat.sl a0, Fa0⟩, ⟨.slice pa1 na1 qa1, Def.sl a1, Fa1⟩] [Dat.sl (Dat.markL a0 k), Def.sl (Def.markL a1 (k + (Dat.cntL a0 : Nat)))] (I ((k + (Dat.cntL a0 : Nat)) + (Def.cntL a1 : Nat))) := by
  refine SpG.of_vc [] [.tmp 4] Tryz.func13 rfl (by kernel_rfl) Tryz.ntmps13 rfl (by simp) rfl ?_
  simp only [go_sem, ↓reduceIte, reduceCtorEq, reduceLT, reduceEqDiff, Nat.reduceBEq, reduceAdd, reduceMul, reduceSub, reduceLeDiff, reduceReplicate]
  refine callK_mark [⟨.slice pa0 na0 qa0, Dat.sl a0, Fa0⟩] [⟨.slice pa1 na1 qa1, Def.sl a1, Fa1⟩] [⟨.slice pa0 na0 qa0, Dat.sl (Dat.markL a0 k), Fa0⟩, ⟨.slice pa1 na1 qa1, Def.sl a1, Fa1⟩] [Dat.sl (Dat.markL a0 k)] (.int .i64 (k + (Dat.cntL a0 : Nat))) ?_ ?_ ?_ ?_ ?_
  · exact markDataS a0 k (by omega) (by omega) (.slice pa0 na0 qa0) Fa0
  · simp
  · have := permB ([] : List TE) [⟨.slice pa0 na0 qa0, Dat.sl a0, Fa0⟩] [⟨.slice pa1 na1 qa1, Def.sl a1, Fa1⟩]
    simp only [List.append_assoc, List.cons_append, List.nil_append, go_sem] at this ⊢; exact this
  · have := permB ([] : List TE) [⟨.slice pa0 na0 qa0, Dat.sl (Dat.markL a0 k), Fa0⟩] [⟨.slice pa1 na1 qa1, Def.sl a1, Fa1⟩]
    simp only [upT, List.append_assoc, List.cons_append, List.nil_append, go_sem] at this ⊢; exact this
  simp only [go_sem, ↓reduceIte, reduceCtorEq, reduceLT, reduceEqDiff, Nat.reduceBEq, reduceAdd, reduceMul, reduceSub, reduceLeDiff, reduceReplicate]
  refine callK_mark [⟨.slice pa1 na1 qa1, Def.sl a1, Fa1⟩] [⟨.slice pa0 na0 qa0, Dat.sl (Dat.markL a0 k), Fa0⟩] [⟨.slice pa0 na0 qa0, Dat.sl (Dat.markL a0 k), Fa0⟩, ⟨.slice pa1 na1 qa1, Def.sl (Def.markL a1 (k + (Dat.cntL a0 : Nat))), Fa1⟩] [Def.sl (Def.markL a1 (k + (Dat.cntL a0 : Nat)))] (.int .i64 ((k + (Dat.cntL a0 : Nat)) + (Def.cntL a1 : Nat))) ?_ ?_ ?_ ?_ ?_
  · exact markDefS a1 (k + (Dat.cntL a0 : Nat)) (by omega) (by omega) (.slice pa1 na1 qa1) Fa1
  · simp
  · have := permB ([⟨.slice pa0 na0 qa0, Dat.sl (Dat.markL a0 k), Fa0⟩] : List TE) [⟨.slice pa1 na1 qa1, Def.sl a1, Fa1⟩] []
    simp only [List.append_assoc, List.cons_append, List.nil_append, go_sem] at this ⊢; exact this
  · have := permB ([⟨.slice pa0 na0 qa0, Dat.sl (Dat.markL a0 k), Fa0⟩] : List TE) [⟨.slice pa1 na1 qa1, Def.sl (Def.markL a1 (k + (Dat.cntL a0 : Nat))), Fa1⟩] []
    simp only [upT, List.append_assoc, List.cons_append, List.nil_append, go_sem] at this ⊢; exact this
  simp only [go_sem, ↓reduceIte, reduceCtorEq, reduceLT, reduceEqDiff, Nat.reduceBEq, reduceAdd, reduceMul, reduceSub, reduceLeDiff, reduceReplicate]
  exact ⟨[], [], .one (.one (.sc _)), by simp [upT, inls, go_sem], by simp [inrs]⟩
end Go.Proofs.YtcidmkcicagpaaaGreat
