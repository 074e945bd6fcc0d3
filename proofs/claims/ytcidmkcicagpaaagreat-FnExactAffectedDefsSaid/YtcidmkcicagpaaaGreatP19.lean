/-
  CheckNames of the program and of the reference. No condition.
-/
import Derived.Test.YtcidmkcicagpaaaGreatP18
set_option maxRecDepth 100000
set_option linter.unusedSimpArgs false
set_option linter.unusedVariables false
namespace Go.Proofs.YtcidmkcicagpaaaGreat
open Go.Fw
open Nat (reduceLT reduceEqDiff reduceAdd reduceMul reduceSub reduceLeDiff)
open List (reduceReplicate)
theorem idxF_sp {X : Type} {p : X → Bool} : ∀ {l : List X}, 0 ≤ idxF p l → ∃ (k : Nat) (h : k < l.length), idxF p l = k ∧ p l[k] = true
  | [], h => by simp [idxF] at h
  | x :: l, h => by
    unfold idxF at h ⊢
    by_cases hp : p x = true
    · exact ⟨0, by simp, by simp [hp], by simpa using hp⟩
    · by_cases hn : idxF p l < 0
      · simp [hp, hn] at h
      · obtain ⟨k, hk, e, e2⟩ := idxF_sp (l := l) (p := p) (by omega)
        exact ⟨k + 1, by simpa using hk, by rw [if_neg hp, if_neg hn, e]; rfl, by simpa using e2⟩
theorem neg_ge (a : Int) : decide (a < 0) = !decide (a ≥ 0) := by
  by_cases h : a < 0
  · simp [h]
  · simp [h]; omega
theorem idxF_any' {X : Type} {p : X → Bool} {l : List X} (h : l.any p = true) : 0 ≤ idxF p l := by
  have := idxF_any (p := p) l
  rw [h] at this; simpa using this
def Term.nmT : Term → ByteArray
  | .mk _ _ n _ _ _ => n
def Term.nsT : Term → List ByteArray
  | .mk _ _ _ _ ns _ => ns
def fitN (das : List Dat) : Term → Bool
  | .mk k v n ty ns ks => (if k = 4 then Typ.good (dNode das) ty else true) && (if k = 8 ∨ k = 10 then decide (datI das n ≥ 0) else true)
def unkD (das : List Dat) (ds : List Def) (d : Def) : Bool := !(Typ.good (dNode das) (Def.ty d)) || (freeF (Def.bd d) [] []).any (fun n => decide (namedF ds n < 0)) || !Term.good (fitN das) (Def.bd d)
def conFs (das : List Dat) (n : ByteArray) : List Typ := match das[(datI das n).toNat]? with | some d => (match (Dat.cs d)[(tagI d n).toNat]? with | some c => Constructor.fs c | none => []) | none => []
def conCs (das : List Dat) (n : ByteArray) : List Constructor := match das[(datI das n).toNat]? with | some d => Dat.cs d | none => []
def caseB (x : Term) (c : Constructor) : Bool := decide (Term.nmT x = Constructor.nm c) && decide ((Term.nsT x).length = (Constructor.fs c).length)
def casesB (l : List Term) (cs : List Constructor) : Bool := decide (l.length = cs.length) && (l.zip cs).all fun z => caseB z.1 z.2
def casesN (das : List Dat) (l : List Term) : Bool := match l with | [] => true | c :: l => casesB (c :: l) (conCs das (Term.nmT c))
def countN (das : List Dat) : Term → Bool
  | .mk k v n ty ns ks => if k = 8 then decide (ks.length = (conFs das n).length) else if k = 9 then casesN das (ks.drop 1) else true
/-- what the names of a data declaration's constructors come to -/
structure DatOk (das : List Dat) : Prop where
  len : das.length ≤ 1048576
  cs : ∀ d ∈ das, (Dat.cs d).length ≤ 1048576
theorem con_at {das : List Dat} {n : ByteArray} (h : 0 ≤ datI das n) : ∃ (i : Nat) (hi : i < das.length) (t : Nat) (ht : t < (Dat.cs das[i]).length), datI das n = i ∧ tagI das[i] n = t ∧ conFs das n = Constructor.fs (Dat.cs das[i])[t] ∧ conCs das n = Dat.cs das[i] ∧ ∀ z, conT z das n = t := by
  obtain ⟨i, hi, e1, e2⟩ := idxF_sp h
  have e1' : datI das n = (i : Int) := e1
  obtain ⟨t, ht, e3, e4⟩ := idxF_sp (idxF_any' (show (Dat.cs das[i]).any (fun c => decide (Constructor.nm c = n)) = true from e2))
  have e3' : tagI das[i] n = (t : Int) := e3
  refine ⟨i, hi, t, ht, e1', e3', ?_, ?_, fun z => by rw [conT_at hi e1', e3']⟩
  · unfold conFs
    rw [e1']
    simp [hi, e3', ht]
  · unfold conCs
    rw [e1']
    simp [hi]
theorem unknown1 (das : List Dat) (ds : List Def) (hl : ds.length ≤ maxLen) (x : ByteArray) : Sp Tryz.prog 147 [S x, .cp [Dat.sl das, Def.sl ds]] (B (decide (namedF ds x < 0))) := by
  refine Sp.of_vc [] [.tmp 3] Tryz.func147 rfl (by kernel_rfl) Tryz.ntmps147 rfl (by simp) ?_
  simp only [go_sem, ↓reduceIte, reduceCtorEq, reduceLT, reduceEqDiff, Nat.reduceBEq, reduceAdd, reduceMul, reduceSub, reduceLeDiff, reduceReplicate]
  refine callK_intro _ (findDef das ds x hl) (by simp; exact ⟨Dat.clL _, Def.clL _⟩) ?_
  simp only [go_sem, ↓reduceIte, reduceCtorEq, reduceLT, reduceEqDiff, Nat.reduceBEq, reduceAdd, reduceMul, reduceSub, reduceLeDiff, reduceReplicate]
  exact Fz.bool rfl
theorem unknown2 (das : List Dat) (ds : List Def) (hd : DatOk das) (k v : Int) (n : ByteArray) (tk : Int) (tn : ByteArray) (tks : List Typ) (ns : List ByteArray) (ks : List Term) (ho : (Typ.mk tk tn tks).ok) :
    Sp Tryz.prog 148 [.ag (Term.ds (.mk k v n (.mk tk tn tks) ns ks)), .cp [Dat.sl das, Def.sl ds]] (B (!fitN das (.mk k v n (.mk tk tn tks) ns ks))) := by
  have hdm : das.length ≤ maxLen := by have := hd.len; unfold maxLen; omega
  have hde := declared das hdm (.mk tk tn tks) ho
  have hfc := findConstructor das n hd.len hd.cs
  simp only [Typ.ds] at hde
  refine Sp.of_vc [] [.tmp 3] Tryz.func148 rfl (by kernel_rfl) Tryz.ntmps148 rfl (by simp) ?_
  simp only [Term.ds, Typ.ds, strs, List.cons_append, List.nil_append, go_sem, ↓reduceIte, reduceCtorEq, reduceLT, reduceEqDiff, Nat.reduceBEq, reduceAdd, reduceMul, reduceSub, reduceLeDiff, reduceReplicate]
  by_cases c4 : k = 4
  · have f4 : (k == 4) = true := by simp [c4]
    simp only [f4, go_sem, ↓reduceIte, reduceCtorEq, reduceLT, reduceEqDiff, Nat.reduceBEq, reduceAdd, reduceMul, reduceSub, reduceLeDiff, reduceReplicate]
    refine callK_intro _ hde (by simp; exact ⟨Dat.clL _, Typ.clL _⟩) ?_
    simp only [go_sem, ↓reduceIte, reduceCtorEq, reduceLT, reduceEqDiff, Nat.reduceBEq, reduceAdd, reduceMul, reduceSub, reduceLeDiff, reduceReplicate]
    exact Fz.bool (by simp [fitN, c4])
  have f4 : (k == 4) = false := by simp [c4]
  simp only [f4, go_sem, ↓reduceIte, reduceCtorEq, reduceLT, reduceEqDiff, Nat.reduceBEq, reduceAdd, reduceMul, reduceSub, reduceLeDiff, reduceReplicate]
  by_cases c8 : k = 8
  · have f8 : (k == 8) = true := by simp [c8]
    simp only [f8, go_sem, ↓reduceIte, reduceCtorEq, reduceLT, reduceEqDiff, Nat.reduceBEq, reduceAdd, reduceMul, reduceSub, reduceLeDiff, reduceReplicate]
    refine callK_intro _ hfc (by simp; exact Dat.clL _) ?_
    simp only [go_sem, ↓reduceIte, reduceCtorEq, reduceLT, reduceEqDiff, Nat.reduceBEq, reduceAdd, reduceMul, reduceSub, reduceLeDiff, reduceReplicate]
    exact Fz.bool (by rw [neg_ge]; simp [fitN, c8])
  have f8 : (k == 8) = false := by simp [c8]
  simp only [f8, go_sem, ↓reduceIte, reduceCtorEq, reduceLT, reduceEqDiff, Nat.reduceBEq, reduceAdd, reduceMul, reduceSub, reduceLeDiff, reduceReplicate]
  by_cases c10 : k = 10
  · have f10 : (k == 10) = true := by simp [c10]
    simp only [f10, go_sem, ↓reduceIte, reduceCtorEq, reduceLT, reduceEqDiff, Nat.reduceBEq, reduceAdd, reduceMul, reduceSub, reduceLeDiff, reduceReplicate]
    refine callK_intro _ hfc (by simp; exact Dat.clL _) ?_
    simp only [go_sem, ↓reduceIte, reduceCtorEq, reduceLT, reduceEqDiff, Nat.reduceBEq, reduceAdd, reduceMul, reduceSub, reduceLeDiff, reduceReplicate]
    exact Fz.bool (by rw [neg_ge]; simp [fitN, c10])
  have f10 : (k == 10) = false := by simp [c10]
  simp only [f10, go_sem, ↓reduceIte, reduceCtorEq, reduceLT, reduceEqDiff, Nat.reduceBEq, reduceAdd, reduceMul, reduceSub, reduceLeDiff, reduceReplicate]
  exact Fz.bool (by simp [fitN, c4, c8, c10])
theorem unknownName (das : List Dat) (ds : List Def) (hd : DatOk das) (hl : ds.length ≤ maxLen) (d : Def) (hg : gdM (Def.bd d) = true) (hs : (Def.bd d).sz ≤ 1048576) (ho : d.ok) : Sp Tryz.prog 116 [.ag [Dat.sl das, Def.sl ds], .ag d.ds] (B (unkD das ds d)) := by
  obtain ⟨dn, ⟨tk, tn, tks⟩, ⟨bk, bv, bn, ⟨uk, un, uks⟩, ns, ks⟩⟩ := d
  simp only [Def.bd] at hg hs
  simp only [Def.ok] at ho
  have hdm : das.length ≤ maxLen := by have := hd.len; unfold maxLen; omega
  have hde := declared das hdm (.mk tk tn tks) ho.2.1
  have hfn := freeNames (.mk bk bv bn (.mk uk un uks) ns ks) hg hs
  have hfl := freeF_len (.mk bk bv bn (.mk uk un uks) ns ks) [] []
  have hnl := Term.num_le_sz (.mk bk bv bn (.mk uk un uks) ns ks)
  have hcf := containsFuncStr (freeF (.mk bk bv bn (.mk uk un uks) ns ks) [] []) (fun n => decide (namedF ds n < 0)) 147 [] [.cp [Dat.sl das, Def.sl ds]] (by simp at hfl; unfold maxLen; omega) (by simp) (by simp) (fun x _ => by simpa using unknown1 das ds hl x)
  have han := anyNode (fitN das) (fun x => x.ok) (fun k v n ty ns ks h => by simp only [Term.ok] at h; exact ⟨h.2.2.2.2.1, Term.okS_mem h.2.2.2.2.2⟩) 148 [] [.cp [Dat.sl das, Def.sl ds]] (by simp) (by simp) (fun x hx => by
    obtain ⟨k, v, n, ⟨tk, tn, tks⟩, ns, ks⟩ := x
    simp only [Term.ok] at hx
    simpa using unknown2 das ds hd k v n tk tn tks ns ks hx.2.1) (.mk bk bv bn (.mk uk un uks) ns ks) ho.2.2
  simp only [Term.ds, Typ.ds, strs, List.cons_append, List.nil_append] at hde hfn han
  simp only [Dat.sl, Def.sl] at hcf han
  refine Sp.of_vc [] [.tmp 4] Tryz.func116 rfl (by kernel_rfl) Tryz.ntmps116 rfl (by simp) ?_
  simp only [Def.ds, Term.ds, Typ.ds, strs, List.cons_append, List.nil_append, go_sem, ↓reduceIte, reduceCtorEq, reduceLT, reduceEqDiff, Nat.reduceBEq, reduceAdd, reduceMul, reduceSub, reduceLeDiff, reduceReplicate]
  refine callK_intro _ hde (by simp; exact ⟨Dat.clL _, Typ.clL _⟩) ?_
  cases c1 : Typ.good (dNode das) (.mk tk tn tks)
  · simp only [go_sem, ↓reduceIte, reduceCtorEq, reduceLT, reduceEqDiff, Nat.reduceBEq, reduceAdd, reduceMul, reduceSub, reduceLeDiff, reduceReplicate]
    exact Fz.bool (by simp [unkD, Def.ty, c1])
  simp only [go_sem, ↓reduceIte, reduceCtorEq, reduceLT, reduceEqDiff, Nat.reduceBEq, reduceAdd, reduceMul, reduceSub, reduceLeDiff, reduceReplicate]
  refine callK_intro _ hfn (by simp; exact ⟨Typ.clL _, Term.clL _⟩) ?_
  simp only [go_sem, ↓reduceIte, reduceCtorEq, reduceLT, reduceEqDiff, Nat.reduceBEq, reduceAdd, reduceMul, reduceSub, reduceLeDiff, reduceReplicate]
  refine callK_intro _ hcf (by simp only [List.nil_append, List.append_nil, List.forall_mem_cons]; exact ⟨cl_R _, Cl.fn' (by simp) (by simp; exact ⟨Dat.clL _, Def.clL _⟩), by simp⟩) ?_
  cases c2 : (freeF (.mk bk bv bn (.mk uk un uks) ns ks) [] []).any (fun n => decide (namedF ds n < 0))
  · simp only [go_sem, ↓reduceIte, reduceCtorEq, reduceLT, reduceEqDiff, Nat.reduceBEq, reduceAdd, reduceMul, reduceSub, reduceLeDiff, reduceReplicate]
    refine callK_intro _ han (by simp only [List.nil_append, List.append_nil, List.forall_mem_cons]; exact ⟨Cl.ag' (by simp; exact ⟨Typ.clL _, Term.clL _⟩), Cl.fn' (by simp) (by simp; exact ⟨Dat.clL _, Def.clL _⟩), by simp⟩) ?_
    simp only [go_sem, ↓reduceIte, reduceCtorEq, reduceLT, reduceEqDiff, Nat.reduceBEq, reduceAdd, reduceMul, reduceSub, reduceLeDiff, reduceReplicate]
    exact Fz.bool (by simp only [unkD, Def.ty, Def.bd, c1, c2, Bool.not_true, Bool.false_or])
  · simp only [go_sem, ↓reduceIte, reduceCtorEq, reduceLT, reduceEqDiff, Nat.reduceBEq, reduceAdd, reduceMul, reduceSub, reduceLeDiff, reduceReplicate]
    exact Fz.bool (by simp only [unkD, Def.ty, Def.bd, c1, c2, Bool.not_true, Bool.false_or, Bool.true_or])
theorem equalFuncTC (q : Term → Constructor → Bool) (a : List Term) (b : List Constructor) (f : FuncId) (ha : a.length ≤ 1048576) (hel : ∀ x ∈ a, ∀ y ∈ b, Sp Tryz.prog f [.ag x.ds, .ag y.ds] (B (q x y))) :
    Sp Tryz.prog 177 [Term.sl a, Constructor.sl b, .fn f [] []] (B (decide (a.length = b.length) && (a.zip b).all fun z => q z.1 z.2)) := by
  have hda : (Term.dsL a).length = a.length := Term.dsL_len a
  have hdb : (Constructor.dsL b).length = b.length := Constructor.dsL_len b
  refine Sp.of_vc [] [.tmp 6] Tryz.func177 rfl (by kernel_rfl) Tryz.ntmps177 rfl (by simp) ?_
  simp only [go_sem, ↓reduceIte, reduceCtorEq, reduceLT, reduceEqDiff, Nat.reduceBEq, reduceAdd, reduceMul, reduceSub, reduceLeDiff, reduceReplicate, hda, hdb]
  refine condK_split (fun h => ?_) (fun h => ?_)
  · simp only [h, go_sem, ↓reduceIte, reduceCtorEq, reduceLT, reduceEqDiff, Nat.reduceBEq, reduceAdd, reduceMul, reduceSub, reduceLeDiff, reduceReplicate]
    refine Fz.bool ?_
    have : ¬ a.length = b.length := by simp at h; omega
    simp [this]
  · have hl : a.length = b.length := by simp at h; omega
    simp only [h, go_sem, ↓reduceIte, reduceCtorEq, reduceLT, reduceEqDiff, Nat.reduceBEq, reduceAdd, reduceMul, reduceSub, reduceLeDiff, reduceReplicate, hda]
    refine loop_count 17 a.length (fun k => Fw.Inv 32 [(0, Term.sl a), (1, Constructor.sl b), (2, .fn f [] []), (15, Term.sl a), (16, I a.length)] (((a.zip b).take k).all (fun z => q z.1 z.2) = true)) rfl ⟨rfl, by simp [Term.sl, Constructor.sl, envOf, setE], by simp⟩ ?_
    rintro k ⟨env, H, n, nt, T⟩ hk h5 ⟨rfl, hfs, hp⟩
    simp only [List.forall_mem_cons, Term.sl, Constructor.sl] at h5 hfs
    obtain ⟨e0, e1, e2, e3, e4, -⟩ := hfs
    simp only [h5, e4, hda, go_sem, ↓reduceIte, reduceCtorEq, reduceLT, reduceEqDiff, Nat.reduceBEq, reduceAdd, reduceMul, reduceSub, reduceLeDiff, reduceReplicate]
    refine condK_split (fun h => ?_) (fun h => ?_)
    · have hlt : k < a.length := by simpa using h
      have hlb : k < b.length := by omega
      have hlz : k < (a.zip b).length := by rw [List.length_zip]; omega
      have g0 := Term.dsL_get a k hlt
      have g1 := Constructor.dsL_get b k hlb
      have hd0 := Term.ds_len a[k]
      have hd1 := Constructor.ds_len b[k]
      have ht0 : List.take 8 a[k].ds = a[k].ds := List.take_of_length_le (by omega)
      have ht1 : List.take 2 b[k].ds = b[k].ds := List.take_of_length_le (by omega)
      have ho0 : (a[k].ds).all oneD = true := by rw [List.all_eq_true]; exact Term.one a[k]
      have ho1 : (b[k].ds).all oneD = true := by rw [List.all_eq_true]; exact Constructor.one b[k]
      simp only [h, h5, e0, e1, e2, e3, e4, g0, g1, hd0, hd1, ht0, ht1, ho0, ho1, List.append_nil, List.take_zero, List.nil_append, go_sem, ↓reduceIte, reduceCtorEq, reduceLT, reduceEqDiff, Nat.reduceBEq, reduceAdd, reduceMul, reduceSub, reduceLeDiff, reduceReplicate]
      refine callK_intro _ (hel a[k] (List.getElem_mem hlt) b[k] (List.getElem_mem hlb)) (by simp; exact ⟨Term.cl _, Constructor.cl _⟩) ?_
      have hz : (a.zip b)[k] = (a[k], b[k]) := List.getElem_zip
      cases hc : q a[k] b[k]
      · simp only [go_sem, ↓reduceIte, reduceCtorEq, reduceLT, reduceEqDiff, Nat.reduceBEq, reduceAdd, reduceMul, reduceSub, reduceLeDiff, reduceReplicate]
        refine Fz.bool ?_
        symm
        rw [Bool.and_eq_false_iff]; right
        exact all_of_take hlz (by rw [hz]; exact hc)
      · simp only [h5, go_sem, ↓reduceIte, reduceCtorEq, reduceLT, reduceEqDiff, Nat.reduceBEq, reduceAdd, reduceMul, reduceSub, reduceLeDiff, reduceReplicate]
        refine nextC_mk (by simp [setE, wrap_succ k (by omega)]) hlt ⟨rfl, by simp [setE, e0, e1, e2, e3, e4, Term.sl, Constructor.sl], ?_⟩
        rw [all_take_succ hlz, hp, hz, hc]; rfl
    · have hk' : k = a.length := by simp at h; omega
      simp only [h, go_sem, ↓reduceIte, reduceCtorEq, reduceLT, reduceEqDiff, Nat.reduceBEq, reduceAdd, reduceMul, reduceSub, reduceLeDiff, reduceReplicate]
      refine Fz.bool ?_
      rw [hk', List.take_of_length_le (by rw [List.length_zip]; omega)] at hp
      rw [hp]; simp [hl]
theorem wrongCases1 (x : Term) (c : Constructor) : Sp Tryz.prog 178 [.ag x.ds, .ag c.ds] (B (caseB x c)) := by
  obtain ⟨k, v, n, ⟨tk, tn, tks⟩, ns, ks⟩ := x
  obtain ⟨cn, fs⟩ := c
  have hfl : (Typ.dsL fs).length = fs.length := Typ.dsL_len fs
  refine Sp.of_vc [] [.tmp 4] Tryz.func178 rfl (by kernel_rfl) Tryz.ntmps178 rfl (by simp) ?_
  simp only [Term.ds, Typ.ds, Constructor.ds, Typ.sl, strs, List.cons_append, List.nil_append, hfl, go_sem, ↓reduceIte, reduceCtorEq, reduceLT, reduceEqDiff, Nat.reduceBEq, reduceAdd, reduceMul, reduceSub, reduceLeDiff, reduceReplicate]
  by_cases h : n = cn
  · have f1 : (n.toList == cn.toList) = true := by rw [bytes_eq]; exact decide_eq_true h
    simp only [f1, List.length_map, go_sem, ↓reduceIte, reduceCtorEq, reduceLT, reduceEqDiff, Nat.reduceBEq, reduceAdd, reduceMul, reduceSub, reduceLeDiff, reduceReplicate]
    refine Fz.bool ?_
    have hcb : caseB (.mk k v n (.mk tk tn tks) ns ks) (.mk cn fs) = decide (ns.length = fs.length) := by by_cases hq : ns.length = fs.length <;> simp [caseB, Term.nmT, Term.nsT, Constructor.nm, Constructor.fs, h, hq]
    rw [hcb, int_beq, hfl]
    by_cases hq : ns.length = fs.length
    · simp [hq]
    · simp [hq]; omega
  · have f1 : (n.toList == cn.toList) = false := by rw [bytes_eq]; exact decide_eq_false h
    simp only [f1, go_sem, ↓reduceIte, reduceCtorEq, reduceLT, reduceEqDiff, Nat.reduceBEq, reduceAdd, reduceMul, reduceSub, reduceLeDiff, reduceReplicate]
    exact Fz.bool (by simp [caseB, Term.nmT, Constructor.nm, h])
theorem wrongCases (das : List Dat) (ds : List Def) (hd : DatOk das) (c : Term) (l : List Term) (hl : (c :: l).length ≤ 1048576) (hc : 0 ≤ datI das (Term.nmT c)) :
    Sp Tryz.prog 152 [.ag [Dat.sl das, Def.sl ds], Term.sl (c :: l)] (B (!casesN das (c :: l))) := by
  have hda : (Dat.dsL das).length = das.length := Dat.dsL_len das
  obtain ⟨i, hi, t, ht, e1, e2, e3, e4, e5⟩ := con_at hc
  have hfc := findConstructor das (Term.nmT c) hd.len hd.cs
  rw [e1, e5] at hfc
  have g0 := Dat.dsL_get das i hi
  have hen : casesN das (c :: l) = casesB (c :: l) (Dat.cs das[i]) := by rw [casesN, e4]
  have heq := equalFuncTC caseB (c :: l) (Dat.cs das[i]) 178 hl fun x _ y _ => wrongCases1 x y
  have hcl := Constructor.clL (Dat.cs das[i])
  have htl := Term.clL (c :: l)
  obtain ⟨d, hdd⟩ : ∃ d, d = das[i] := ⟨_, rfl⟩
  rw [← hdd] at g0 hen heq hcl
  obtain ⟨dn, cs⟩ := d
  obtain ⟨k, v, n, ⟨tk, tn, tks⟩, ns, ks⟩ := c
  simp only [Term.nmT, Dat.cs] at hfc hen heq hcl
  simp only [Dat.ds, Constructor.sl] at g0
  simp only [Term.sl, Constructor.sl, Term.dsL, Term.ds, Typ.ds, strs, List.cons_append, List.nil_append] at heq htl
  have hi' : ((i : Int) < (das.length : Int)) = True := eq_true (by omega)
  refine Sp.of_vc [] [.tmp 4] Tryz.func152 rfl (by kernel_rfl) Tryz.ntmps152 rfl (by simp) ?_
  simp only [Term.sl, Term.dsL, Term.ds, Typ.ds, strs, List.cons_append, List.nil_append, go_sem, ↓reduceIte, reduceCtorEq, reduceLT, reduceEqDiff, Nat.reduceBEq, reduceAdd, reduceMul, reduceSub, reduceLeDiff, reduceReplicate]
  refine drawK_intro mixed (by kernel_rfl) ?_
  refine callQ_intro _ hfc (by simp; exact Dat.clL _) rfl ?_
  simp only [g0, go_sem, ↓reduceIte, reduceCtorEq, reduceLT, reduceEqDiff, Nat.reduceBEq, reduceAdd, reduceMul, reduceSub, reduceLeDiff, reduceReplicate]
  refine callK_intro _ heq (by simp only [List.nil_append, List.append_nil, List.forall_mem_cons]; exact ⟨Cl.sl' htl, Cl.sl' hcl, Cl.fn' (by simp) (by simp), by simp⟩) ?_
  simp only [go_sem, ↓reduceIte, reduceCtorEq, reduceLT, reduceEqDiff, Nat.reduceBEq, reduceAdd, reduceMul, reduceSub, reduceLeDiff, reduceReplicate]
  refine Fz.bool ?_
  rw [hen]; rfl
theorem wrongCount (das : List Dat) (ds : List Def) (hd : DatOk das) (t : Term) (hg : gdM t = true) (hf : Term.good (fitN das) t = true) (hkl : ∀ k v n ty ns ks, t = .mk k v n ty ns ks → ks.length ≤ 1048576) :
    Sp Tryz.prog 119 [.ag [Dat.sl das, Def.sl ds], .ag t.ds] (B (!countN das t)) := by
  obtain ⟨k, v, n, ⟨tk, tn, tks⟩, ns, ks⟩ := t
  have hkl := hkl _ _ _ _ _ _ rfl
  have hda : (Dat.dsL das).length = das.length := Dat.dsL_len das
  have hdk : (Term.dsL ks).length = ks.length := Term.dsL_len ks
  rw [Term.good, Term.goodS_eq, Bool.and_eq_true, List.all_eq_true] at hf
  obtain ⟨hf1, hf2⟩ := hf
  refine Sp.of_vc [] [.tmp 4] Tryz.func119 rfl (by kernel_rfl) Tryz.ntmps119 rfl (by simp) ?_
  simp only [Term.ds, Typ.ds, strs, List.cons_append, List.nil_append, go_sem, ↓reduceIte, reduceCtorEq, reduceLT, reduceEqDiff, Nat.reduceBEq, reduceAdd, reduceMul, reduceSub, reduceLeDiff, reduceReplicate]
  by_cases c8 : k = 8
  · have f8 : (k == 8) = true := by simp [c8]
    have hc : 0 ≤ datI das n := by simp [fitN, c8] at hf1; omega
    obtain ⟨i, hi, t, ht, e1, e2, e3, e4, e5⟩ := con_at hc
    have hfc := findConstructor das n hd.len hd.cs
    rw [e1, e5] at hfc
    have g0 := Dat.dsL_get das i hi
    have g1 := Constructor.dsL_get (Dat.cs das[i]) t ht
    obtain ⟨c, hcc⟩ : ∃ c, c = (Dat.cs das[i])[t] := ⟨_, rfl⟩
    rw [← hcc] at g1 e3
    obtain ⟨d, hdd⟩ : ∃ d, d = das[i] := ⟨_, rfl⟩
    rw [← hdd] at g0 g1
    obtain ⟨dn, cs⟩ := d
    obtain ⟨cn, fs⟩ := c
    have hfl : (Typ.dsL fs).length = fs.length := Typ.dsL_len fs
    simp only [Dat.ds, Constructor.ds, Constructor.sl, Typ.sl, Dat.cs] at g0 g1
    simp only [f8, go_sem, ↓reduceIte, reduceCtorEq, reduceLT, reduceEqDiff, Nat.reduceBEq, reduceAdd, reduceMul, reduceSub, reduceLeDiff, reduceReplicate]
    refine callK_intro _ hfc (by simp; exact Dat.clL _) ?_
    simp only [go_sem, ↓reduceIte, reduceCtorEq, reduceLT, reduceEqDiff, Nat.reduceBEq, reduceAdd, reduceMul, reduceSub, reduceLeDiff, reduceReplicate]
    refine drawK_intro mixed (by kernel_rfl) ?_
    simp only [g0, g1, hdk, hfl, go_sem, ↓reduceIte, reduceCtorEq, reduceLT, reduceEqDiff, Nat.reduceBEq, reduceAdd, reduceMul, reduceSub, reduceLeDiff, reduceReplicate]
    refine Fz.bool ?_
    simp only [countN, c8, if_true]
    rw [e3]
    simp only [Constructor.fs]
    by_cases hq : ks.length = fs.length
    · simp [hq]
    · simp [hq]; omega
  have f8 : (k == 8) = false := by simp [c8]
  simp only [f8, go_sem, ↓reduceIte, reduceCtorEq, reduceLT, reduceEqDiff, Nat.reduceBEq, reduceAdd, reduceMul, reduceSub, reduceLeDiff, reduceReplicate]
  by_cases c9 : k = 9
  · have f9 : (k == 9) = true := by simp [c9]
    obtain ⟨hk2, hk3⟩ : 2 ≤ ks.length ∧ (∀ (i : Nat) (h : i < ks.length), 0 < i → Term.kd ks[i] = 10) := by
      rw [gdM, Term.good, Bool.and_eq_true] at hg
      have h1 := hg.1
      simp only [tmOk, tmNode, Bool.and_eq_true, inR, decide_eq_true_eq] at h1
      refine ⟨?_, fun i h hi => ?_⟩
      · have := h1.1.1.1
        simp [kidsR, c9] at this
        omega
      · have := h1.2
        simp only [caseF, decide_eq_true_eq] at this
        have := this i h
        simpa [c9, hi] using this
    obtain ⟨k0, k1, kr, rfl⟩ : ∃ a b l, ks = a :: b :: l := by
      match ks, hk2 with
      | a :: b :: l, _ => exact ⟨a, b, l, rfl⟩
    have hc : 0 ≤ datI das (Term.nmT k1) := by
      have h1 := hf2 k1 (by simp)
      have h2 := hk3 1 (by simp) (by omega)
      simp only [List.getElem_cons_succ, List.getElem_cons_zero] at h2
      obtain ⟨a1, a2, a3, a4, a5, a6⟩ := k1
      simp only [Term.kd] at h2
      rw [Term.good, Bool.and_eq_true] at h1
      have := h1.1
      simp [fitN, h2] at this
      simp only [Term.nmT]; omega
    have hwc := wrongCases das ds hd k1 kr (by simp at hkl ⊢; omega) hc
    have h1l : ((1 : Int) ≤ ((kr.length + 1 + 1 : Nat) : Int)) = True := eq_true (by omega)
    simp only [f9, Term.dsL, List.length_cons, go_sem, ↓reduceIte, reduceCtorEq, reduceLT, reduceEqDiff, Nat.reduceBEq, reduceAdd, reduceMul, reduceSub, reduceLeDiff, reduceReplicate]
    refine drawK_intro mixed (by kernel_rfl) ?_
    have h01 : ((0 : Int) ≤ 1) = True := by simp
    have tn1 : Int.toNat 1 = 1 := rfl
    have htk : List.take kr.length (Term.dsL kr) = Term.dsL kr := List.take_of_length_le (by rw [Term.dsL_len]; exact Nat.le_refl _)
    simp only [Term.dsL_len, List.length_cons, h1l, h01, tn1, htk, go_sem, ↓reduceIte, reduceCtorEq, reduceLT, reduceEqDiff, Nat.reduceBEq, reduceAdd, reduceMul, reduceSub, reduceLeDiff, reduceReplicate]
    refine callQ_intro _ hwc (by simp; exact ⟨⟨Dat.clL _, Def.clL _⟩, Term.cl _, Term.clL _⟩) rfl ?_
    simp only [go_sem, ↓reduceIte, reduceCtorEq, reduceLT, reduceEqDiff, Nat.reduceBEq, reduceAdd, reduceMul, reduceSub, reduceLeDiff, reduceReplicate]
    exact Fz.bool (by simp [countN, c9])
  have f9 : (k == 9) = false := by simp [c9]
  simp only [f9, go_sem, ↓reduceIte, reduceCtorEq, reduceLT, reduceEqDiff, Nat.reduceBEq, reduceAdd, reduceMul, reduceSub, reduceLeDiff, reduceReplicate]
  exact Fz.bool (by simp [countN, c8, c9])
theorem gdM_len {k v : Int} {n : ByteArray} {ty : Typ} {ns : List ByteArray} {ks : List Term} (hg : gdM (.mk k v n ty ns ks) = true) : ks.length ≤ 1048576 := by
  rw [gdM, Term.good, Bool.and_eq_true] at hg
  have := hg.1
  simp only [tmOk, tmNode, Bool.and_eq_true, inR, decide_eq_true_eq] at this
  have := this.1.1.2
  simp only [kidsR] at this
  repeat' split at this
  all_goals simp only at this
  all_goals omega
theorem checkNames1 (das : List Dat) (ds : List Def) (hd : DatOk das) (d : Def) (hg : gdM (Def.bd d) = true) (hf : Term.good (fitN das) (Def.bd d) = true) : Sp Tryz.prog 117 [.ag d.ds, .cp [Dat.sl das, Def.sl ds]] (B (!Term.good (countN das) (Def.bd d))) := by
  have han := anyNode (countN das) (fun x => gdM x = true ∧ Term.good (fitN das) x = true) (fun k v n ty ns ks h => by
    refine ⟨by have := gdM_len h.1; unfold maxLen; omega, fun x hx => ⟨(gdM_kids h.1).2 x hx, ?_⟩⟩
    have h2 := h.2
    rw [Term.good, Term.goodS_eq, Bool.and_eq_true, List.all_eq_true] at h2
    exact h2.2 x hx) 119 [.ag [Dat.sl das, Def.sl ds]] [] (by simp) (by simp) (fun x hx => by
    simpa using wrongCount das ds hd x hx.1 hx.2 (fun k v n ty ns ks e => gdM_len (e ▸ hx.1))) (Def.bd d) ⟨hg, hf⟩
  obtain ⟨dn, ⟨tk, tn, tks⟩, ⟨bk, bv, bn, ⟨uk, un, uks⟩, ns, ks⟩⟩ := d
  simp only [Def.bd] at han
  simp only [Term.ds, Typ.ds, strs, List.cons_append, List.nil_append, Dat.sl, Def.sl] at han
  refine Sp.of_vc [] [.tmp 3] Tryz.func117 rfl (by kernel_rfl) Tryz.ntmps117 rfl (by simp) ?_
  simp only [Def.ds, Term.ds, Typ.ds, strs, List.cons_append, List.nil_append, go_sem, ↓reduceIte, reduceCtorEq, reduceLT, reduceEqDiff, Nat.reduceBEq, reduceAdd, reduceMul, reduceSub, reduceLeDiff, reduceReplicate]
  refine callK_intro _ han (by simp only [List.nil_append, List.append_nil, List.forall_mem_cons]; exact ⟨Cl.ag' (by simp; exact ⟨Typ.clL _, Term.clL _⟩), Cl.fn' (by simp; exact ⟨Dat.clL _, Def.clL _⟩) (by simp), by simp⟩) ?_
  simp only [go_sem, ↓reduceIte, reduceCtorEq, reduceLT, reduceEqDiff, Nat.reduceBEq, reduceAdd, reduceMul, reduceSub, reduceLeDiff, reduceReplicate]
  exact Fz.bool rfl
open Classical in
noncomputable def codeN : Prg → Int
  | .mk das ds => if progP (.mk das ds) then (if ds.any (unkD das ds) then 7 else if ds.any (fun d => !Term.good (countN das) (Def.bd d)) then 2 else 0) else 1
theorem prog_dat {das : List Dat} {ds : List Def} (h : progP (.mk das ds)) : DatOk das := by
  obtain ⟨⟨h1, h2⟩, _⟩ := h
  refine ⟨by omega, fun d hd => ?_⟩
  obtain ⟨i, hi, rfl⟩ := List.getElem_of_mem hd
  have h3 := (h2 i hi).1
  simp only [dHead, Bool.and_eq_true, decide_eq_true_eq] at h3
  have := h3.2
  omega
theorem prog_bd {das : List Dat} {ds : List Def} (h : progP (.mk das ds)) : ∀ d ∈ ds, gdM (Def.bd d) = true ∧ gdT (Def.ty d) = true := fun d hd => by
  obtain ⟨_, _, _, h2⟩ := h
  obtain ⟨i, hi, rfl⟩ := List.getElem_of_mem hd
  have h3 := h2 i hi
  have h4 := h3.2.2.2
  have h5 := h3.2.2.1
  simp only [tmF, Bool.and_eq_true] at h4
  simp only [tyF, Bool.and_eq_true] at h5
  exact ⟨h4.1.1, h5.1⟩
theorem sz_bd (d : Def) : (Def.bd d).sz ≤ d.sz := by obtain ⟨a, b, c⟩ := d; simp only [Def.bd, Def.sz]; omega
theorem ok_bd {d : Def} (h : d.ok) : (Def.bd d).ok ∧ (Def.ty d).ok := by obtain ⟨a, b, c⟩ := d; simp only [Def.ok] at h; exact ⟨h.2.2, h.2.1⟩
open Classical in
theorem checkNames (p : Prg) (hs : p.sz ≤ 1048576) (ho : p.ok) : Sp Tryz.prog 90 [.ag p.ds] (I (codeN p)) := by
  have hvp := validProgram p hs ho
  obtain ⟨das, ds⟩ := p
  simp only [Prg.ok] at ho
  simp only [Prg.sz] at hs
  simp only [Prg.ds] at hvp
  by_cases c0 : progP (.mk das ds)
  case neg =>
    have he : codeN (.mk das ds) = 1 := by rw [codeN, if_neg c0]
    rw [he]
    simp only [decide_eq_false c0] at hvp
    simp only [Dat.sl, Def.sl] at hvp
    refine Sp.of_vc [] [.tmp 2] Tryz.func90 rfl (by kernel_rfl) Tryz.ntmps90 rfl (by simp) ?_
    simp only [Prg.ds, Dat.sl, Def.sl, go_sem, ↓reduceIte, reduceCtorEq, reduceLT, reduceEqDiff, Nat.reduceBEq, reduceAdd, reduceMul, reduceSub, reduceLeDiff, reduceReplicate]
    refine callK_intro _ hvp (by simp; exact ⟨Dat.clL _, Def.clL _⟩) ?_
    simp only [go_sem, ↓reduceIte, reduceCtorEq, reduceLT, reduceEqDiff, Nat.reduceBEq, reduceAdd, reduceMul, reduceSub, reduceLeDiff, reduceReplicate]
    exact Fz.int rfl
  have hdk := prog_dat c0
  have hbd := prog_bd c0
  have hdm : ds.length ≤ maxLen := by have := c0.2.2.1; unfold maxLen; omega
  have hc1 := containsFuncDef ds (unkD das ds) 116 [.ag [Dat.sl das, Def.sl ds]] [] hdm (by simp) (by simp) (fun d hd => by
    have h1 := Def.sz_mem hd
    have h2 := sz_bd d
    simpa using unknownName das ds hdk hdm d (hbd d hd).1 (by omega) (ho.2.2.2 d hd))
  simp only [decide_eq_true c0] at hvp
  simp only [Dat.sl, Def.sl] at hvp hc1
  cases c1 : ds.any (unkD das ds)
  case true =>
    have he : codeN (.mk das ds) = 7 := by rw [codeN, if_pos c0, c1]; rfl
    rw [he]
    rw [c1] at hc1
    refine Sp.of_vc [] [.tmp 2] Tryz.func90 rfl (by kernel_rfl) Tryz.ntmps90 rfl (by simp) ?_
    simp only [Prg.ds, Dat.sl, Def.sl, go_sem, ↓reduceIte, reduceCtorEq, reduceLT, reduceEqDiff, Nat.reduceBEq, reduceAdd, reduceMul, reduceSub, reduceLeDiff, reduceReplicate]
    refine callK_intro _ hvp (by simp; exact ⟨Dat.clL _, Def.clL _⟩) ?_
    simp only [go_sem, ↓reduceIte, reduceCtorEq, reduceLT, reduceEqDiff, Nat.reduceBEq, reduceAdd, reduceMul, reduceSub, reduceLeDiff, reduceReplicate]
    refine callK_intro _ hc1 (by simp only [List.nil_append, List.append_nil, List.forall_mem_cons]; exact ⟨Cl.sl' (Def.clL _), Cl.fn' (by simp; exact ⟨Dat.clL _, Def.clL _⟩) (by simp), by simp⟩) ?_
    simp only [go_sem, ↓reduceIte, reduceCtorEq, reduceLT, reduceEqDiff, Nat.reduceBEq, reduceAdd, reduceMul, reduceSub, reduceLeDiff, reduceReplicate]
    exact Fz.int rfl
  have hfit : ∀ d ∈ ds, Term.good (fitN das) (Def.bd d) = true := fun d hd => by
    have := List.any_eq_false.1 c1 d hd
    simp only [unkD, Bool.or_eq_true, not_or, Bool.not_eq_true'] at this
    have := this.2
    simpa using this
  have hc2 := containsFuncDef ds (fun d => !Term.good (countN das) (Def.bd d)) 117 [] [.cp [Dat.sl das, Def.sl ds]] hdm (by simp) (by simp) (fun d hd => by
    simpa using checkNames1 das ds hdk d (hbd d hd).1 (hfit d hd))
  simp only [Dat.sl, Def.sl] at hc2
  have he : codeN (.mk das ds) = if ds.any (fun d => !Term.good (countN das) (Def.bd d)) then 2 else 0 := by rw [codeN, if_pos c0, c1]; rfl
  rw [he]
  rw [c1] at hc1
  refine Sp.of_vc [] [.tmp 2] Tryz.func90 rfl (by kernel_rfl) Tryz.ntmps90 rfl (by simp) ?_
  simp only [Prg.ds, Dat.sl, Def.sl, go_sem, ↓reduceIte, reduceCtorEq, reduceLT, reduceEqDiff, Nat.reduceBEq, reduceAdd, reduceMul, reduceSub, reduceLeDiff, reduceReplicate]
  refine callK_intro _ hvp (by simp; exact ⟨Dat.clL _, Def.clL _⟩) ?_
  simp only [go_sem, ↓reduceIte, reduceCtorEq, reduceLT, reduceEqDiff, Nat.reduceBEq, reduceAdd, reduceMul, reduceSub, reduceLeDiff, reduceReplicate]
  refine callK_intro _ hc1 (by simp only [List.nil_append, List.append_nil, List.forall_mem_cons]; exact ⟨Cl.sl' (Def.clL _), Cl.fn' (by simp; exact ⟨Dat.clL _, Def.clL _⟩) (by simp), by simp⟩) ?_
  simp only [go_sem, ↓reduceIte, reduceCtorEq, reduceLT, reduceEqDiff, Nat.reduceBEq, reduceAdd, reduceMul, reduceSub, reduceLeDiff, reduceReplicate]
  refine callK_intro _ hc2 (by simp only [List.nil_append, List.append_nil, List.forall_mem_cons]; exact ⟨Cl.sl' (Def.clL _), Cl.fn' (by simp) (by simp; exact ⟨Dat.clL _, Def.clL _⟩), by simp⟩) ?_
  cases c2 : ds.any (fun d => !Term.good (countN das) (Def.bd d))
  · simp only [go_sem, ↓reduceIte, reduceCtorEq, reduceLT, reduceEqDiff, Nat.reduceBEq, reduceAdd, reduceMul, reduceSub, reduceLeDiff, reduceReplicate]
    exact Fz.int rfl
  · simp only [go_sem, ↓reduceIte, reduceCtorEq, reduceLT, reduceEqDiff, Nat.reduceBEq, reduceAdd, reduceMul, reduceSub, reduceLeDiff, reduceReplicate]
    exact Fz.int rfl
end Go.Proofs.YtcidmkcicagpaaaGreat
