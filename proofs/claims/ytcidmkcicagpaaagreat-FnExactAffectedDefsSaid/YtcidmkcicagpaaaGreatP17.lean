/-
  The names that a node binds, and the free names of a term, of the program and of the reference. No condition.
-/
import Derived.Test.YtcidmkcicagpaaaGreatP10
import Derived.Test.YtcidmkcicagpaaaGreatFw15
set_option maxRecDepth 100000
set_option linter.unusedSimpArgs false
set_option linter.unusedVariables false
namespace Go.Proofs.YtcidmkcicagpaaaGreat
open Go.Fw
open Nat (reduceLT reduceEqDiff reduceAdd reduceMul reduceSub reduceLeDiff)
open List (reduceReplicate)
def hasS (l : List ByteArray) (v : ByteArray) : Bool := l.any fun x => decide (x = v)
def bindsF (k : Int) (n : ByteArray) (ns : List ByteArray) (i : Nat) : List ByteArray := if k = 4 ∨ k = 7 ∧ i = 1 then [n] else if k = 10 then ns else []
mutual
def freeF : Term → List ByteArray → List ByteArray → List ByteArray
  | .mk k v n ty ns ks, sc, out => freeS k n ns ks 0 sc (if decide (k = 1) && !hasS sc n && !hasS out n then out ++ [n] else out)
def freeS (k : Int) (n : ByteArray) (ns : List ByteArray) : List Term → Nat → List ByteArray → List ByteArray → List ByteArray
  | [], _, _, out => out
  | t :: l, i, sc, out => freeS k n ns l (i + 1) sc (freeF t (sc ++ bindsF k n ns i) out)
end
theorem freeS_take {k : Int} {n : ByteArray} {ns sc : List ByteArray} : ∀ (l : List Term) (j i : Nat) (out : List ByteArray) (h : j < l.length), freeS k n ns (l.take (j + 1)) i sc out = freeF l[j] (sc ++ bindsF k n ns (i + j)) (freeS k n ns (l.take j) i sc out)
  | t :: l, 0, i, out, h => by simp [freeS]
  | t :: l, j + 1, i, out, h => by
    have := freeS_take (k := k) (n := n) (ns := ns) (sc := sc) l j (i + 1) (freeF t (sc ++ bindsF k n ns i) out) (by simpa using h)
    simp only [List.take_succ_cons, freeS, List.getElem_cons_succ]
    rw [this, show i + 1 + j = i + (j + 1) by omega]
mutual
theorem freeF_len : ∀ (t : Term) (sc out : List ByteArray), (freeF t sc out).length ≤ out.length + t.num
  | .mk k v n ty ns ks, sc, out => by
    rw [freeF, Term.num]
    have := freeS_len k n ns ks 0 sc (if decide (k = 1) && !hasS sc n && !hasS out n then out ++ [n] else out)
    split at this <;> rename_i h <;> simp only [h, if_true] <;> simp at this ⊢ <;> omega
theorem freeS_len (k : Int) (n : ByteArray) (ns : List ByteArray) : ∀ (l : List Term) (i : Nat) (sc out : List ByteArray), (freeS k n ns l i sc out).length ≤ out.length + Term.numS l
  | [], i, sc, out => by simp [freeS, Term.numS]
  | t :: l, i, sc, out => by
    rw [freeS, Term.numS]
    have h1 := freeF_len t (sc ++ bindsF k n ns i) out
    have h2 := freeS_len k n ns l (i + 1) sc (freeF t (sc ++ bindsF k n ns i) out)
    omega
end
theorem bindsF_len (k : Int) (n : ByteArray) (ns : List ByteArray) (i : Nat) : (bindsF k n ns i).length ≤ ns.length + 1 := by
  unfold bindsF
  split
  · simp
  · split <;> simp
theorem strs1 (l : List ByteArray) : ∀ r ∈ l.map (fun s => [S s]), r.length = 1 := by simp
theorem boundAt (k v : Int) (n : ByteArray) (tk : Int) (tn : ByteArray) (tks : List Typ) (ns : List ByteArray) (ks : List Term) (i : Nat) : Sp Tryz.prog 180 [.ag (Term.ds (.mk k v n (.mk tk tn tks) ns ks)), I i] (strs (bindsF k n ns i)) := by
  refine Sp.of_vc [] [.tmp 4] Tryz.func180 rfl (by kernel_rfl) Tryz.ntmps180 rfl (by simp) ?_
  simp only [Term.ds, Typ.ds, strs, List.cons_append, List.nil_append, go_sem, ↓reduceIte, reduceCtorEq, reduceLT, reduceEqDiff, Nat.reduceBEq, reduceAdd, reduceMul, reduceSub, reduceLeDiff, reduceReplicate]
  by_cases c4 : k = 4
  · have f4 : (k == 4) = true := by simp [c4]
    simp only [f4, go_sem, ↓reduceIte, reduceCtorEq, reduceLT, reduceEqDiff, Nat.reduceBEq, reduceAdd, reduceMul, reduceSub, reduceLeDiff, reduceReplicate]
    simp only [bindsF, c4, true_or, if_true]
    exact Fz.rows (rows := [n].map fun s => [S s]) rfl rfl rfl (by decide) rfl (by simp) rfl (by simp)
  have f4 : (k == 4) = false := by simp [c4]
  simp only [f4, go_sem, ↓reduceIte, reduceCtorEq, reduceLT, reduceEqDiff, Nat.reduceBEq, reduceAdd, reduceMul, reduceSub, reduceLeDiff, reduceReplicate]
  by_cases c7 : k = 7
  · have f7 : (k == 7) = true := by simp [c7]
    simp only [f7, go_sem, ↓reduceIte, reduceCtorEq, reduceLT, reduceEqDiff, Nat.reduceBEq, reduceAdd, reduceMul, reduceSub, reduceLeDiff, reduceReplicate]
    by_cases ci : i = 1
    · have fi : ((i : Int) == 1) = true := by simp [ci]
      simp only [fi, go_sem, ↓reduceIte, reduceCtorEq, reduceLT, reduceEqDiff, Nat.reduceBEq, reduceAdd, reduceMul, reduceSub, reduceLeDiff, reduceReplicate]
      simp only [bindsF, c7, ci, and_self, or_true, if_true]
      exact Fz.rows (rows := [n].map fun s => [S s]) rfl rfl rfl (by decide) rfl (by simp) rfl (by simp)
    have fi : ((i : Int) == 1) = false := by simp; omega
    have f10 : (k == 10) = false := by simp [c7]
    simp only [fi, f10, go_sem, ↓reduceIte, reduceCtorEq, reduceLT, reduceEqDiff, Nat.reduceBEq, reduceAdd, reduceMul, reduceSub, reduceLeDiff, reduceReplicate]
    have : bindsF k n ns i = [] := by simp [bindsF, c7, ci]
    rw [this]; exact Fz.nil 1
  have f7 : (k == 7) = false := by simp [c7]
  simp only [f7, go_sem, ↓reduceIte, reduceCtorEq, reduceLT, reduceEqDiff, Nat.reduceBEq, reduceAdd, reduceMul, reduceSub, reduceLeDiff, reduceReplicate]
  by_cases c10 : k = 10
  · have f10 : (k == 10) = true := by simp [c10]
    simp only [f10, go_sem, ↓reduceIte, reduceCtorEq, reduceLT, reduceEqDiff, Nat.reduceBEq, reduceAdd, reduceMul, reduceSub, reduceLeDiff, reduceReplicate]
    have : bindsF k n ns i = ns := by simp [bindsF, c10]
    rw [this]; exact Fz.same rfl (cl_strs _)
  have f10 : (k == 10) = false := by simp [c10]
  simp only [f10, go_sem, ↓reduceIte, reduceCtorEq, reduceLT, reduceEqDiff, Nat.reduceBEq, reduceAdd, reduceMul, reduceSub, reduceLeDiff, reduceReplicate]
  have : bindsF k n ns i = [] := by simp [bindsF, c4, c7, c10]
  rw [this]; exact Fz.nil 1
theorem l03Binds (k v : Int) (n : ByteArray) (tk : Int) (tn : ByteArray) (tks : List Typ) (ns : List ByteArray) (ks : List Term) (i : Nat) : Sp Tryz.prog 143 [.cp (Term.ds (.mk k v n (.mk tk tn tks) ns ks)), I i] (strs (bindsF k n ns i)) := by
  refine Sp.of_vc [] [.tmp 4] Tryz.func143 rfl (by kernel_rfl) Tryz.ntmps143 rfl (by simp) ?_
  simp only [Term.ds, Typ.ds, strs, List.cons_append, List.nil_append, go_sem, ↓reduceIte, reduceCtorEq, reduceLT, reduceEqDiff, Nat.reduceBEq, reduceAdd, reduceMul, reduceSub, reduceLeDiff, reduceReplicate]
  by_cases c4 : k = 4
  · have f4 : (k == 4) = true := by simp [c4]
    simp only [f4, go_sem, ↓reduceIte, reduceCtorEq, reduceLT, reduceEqDiff, Nat.reduceBEq, reduceAdd, reduceMul, reduceSub, reduceLeDiff, reduceReplicate]
    simp only [bindsF, c4, true_or, if_true]
    exact Fz.rows (rows := [n].map fun s => [S s]) rfl rfl rfl (by decide) rfl (by simp) rfl (by simp)
  have f4 : (k == 4) = false := by simp [c4]
  simp only [f4, go_sem, ↓reduceIte, reduceCtorEq, reduceLT, reduceEqDiff, Nat.reduceBEq, reduceAdd, reduceMul, reduceSub, reduceLeDiff, reduceReplicate]
  by_cases c7 : k = 7
  · have f7 : (k == 7) = true := by simp [c7]
    simp only [f7, go_sem, ↓reduceIte, reduceCtorEq, reduceLT, reduceEqDiff, Nat.reduceBEq, reduceAdd, reduceMul, reduceSub, reduceLeDiff, reduceReplicate]
    by_cases ci : i = 1
    · have fi : ((i : Int) == 1) = true := by simp [ci]
      simp only [fi, go_sem, ↓reduceIte, reduceCtorEq, reduceLT, reduceEqDiff, Nat.reduceBEq, reduceAdd, reduceMul, reduceSub, reduceLeDiff, reduceReplicate]
      simp only [bindsF, c7, ci, and_self, or_true, if_true]
      exact Fz.rows (rows := [n].map fun s => [S s]) rfl rfl rfl (by decide) rfl (by simp) rfl (by simp)
    have fi : ((i : Int) == 1) = false := by simp; omega
    have f10 : (k == 10) = false := by simp [c7]
    simp only [fi, f10, go_sem, ↓reduceIte, reduceCtorEq, reduceLT, reduceEqDiff, Nat.reduceBEq, reduceAdd, reduceMul, reduceSub, reduceLeDiff, reduceReplicate]
    have : bindsF k n ns i = [] := by simp [bindsF, c7, ci]
    rw [this]; exact Fz.nil 1
  have f7 : (k == 7) = false := by simp [c7]
  simp only [f7, go_sem, ↓reduceIte, reduceCtorEq, reduceLT, reduceEqDiff, Nat.reduceBEq, reduceAdd, reduceMul, reduceSub, reduceLeDiff, reduceReplicate]
  by_cases c10 : k = 10
  · have f10 : (k == 10) = true := by simp [c10]
    simp only [f10, go_sem, ↓reduceIte, reduceCtorEq, reduceLT, reduceEqDiff, Nat.reduceBEq, reduceAdd, reduceMul, reduceSub, reduceLeDiff, reduceReplicate]
    have : bindsF k n ns i = ns := by simp [bindsF, c10]
    rw [this]; exact Fz.same rfl (cl_strs _)
  have f10 : (k == 10) = false := by simp [c10]
  simp only [f10, go_sem, ↓reduceIte, reduceCtorEq, reduceLT, reduceEqDiff, Nat.reduceBEq, reduceAdd, reduceMul, reduceSub, reduceLeDiff, reduceReplicate]
  have : bindsF k n ns i = [] := by simp [bindsF, c4, c7, c10]
  rw [this]; exact Fz.nil 1
theorem growStr (m : Nat) (hm : m ≤ 1099511627776) : SpF Tryz.prog 189 [.sc (.slice none 0 0), I m] 9 1 [] := by
  refine SpF.of_vc [] [.tmp 4] Tryz.func189 rfl (by kernel_rfl) Tryz.ntmps189 rfl (by simp) ?_ ?_
  · simp
  have f0 : decide ((m : Int) < 0) = false := by simp
  have w0 : IntKind.i64.wrap ((m : Int) - 0) = (m : Int) := by have := Go.IntWalk.i64_in ((m : Int) - 0) (by omega); rw [this]; omega
  have w1 : IntKind.i64.wrap ((0 : Int) - 0) = 0 := rfl
  simp only [f0, w0, w1, go_sem, ↓reduceIte, reduceCtorEq, reduceLT, reduceEqDiff, Nat.reduceBEq, reduceAdd, reduceMul, reduceSub, reduceLeDiff, reduceReplicate]
  by_cases c0 : m = 0
  · have f1 : decide ((m : Int) > 0) = false := by simp [c0]
    simp only [f1, go_sem, ↓reduceIte, reduceCtorEq, reduceLT, reduceEqDiff, Nat.reduceBEq, reduceAdd, reduceMul, reduceSub, reduceLeDiff, reduceReplicate]
    exact .inl ⟨rfl, rfl⟩
  have f1 : decide ((m : Int) > 0) = true := by simp; omega
  simp only [f1, Option.isSome_some, Int.toNat_natCast, go_sem, ↓reduceIte, reduceCtorEq, reduceLT, reduceEqDiff, Nat.reduceBEq, reduceAdd, reduceMul, reduceSub, reduceLeDiff, reduceReplicate]
  exact ⟨⟨by omega, by omega, by unfold maxLen; omega⟩, .inr ⟨22, ⟨0, 9, 1, (List.replicate m [S ByteArray.empty]).flatten, none⟩, rfl, rfl, rfl, rfl, ⟨_, rfl⟩, rfl⟩⟩
abbrev R (l : List ByteArray) : List (List D) := l.map fun s => [S s]
theorem R_flat (l : List ByteArray) : (R l).flatten = l.map S := by induction l with
  | nil => rfl
  | cons a l ih => simp only [List.map_cons, List.flatten_cons, List.cons_append, List.nil_append, List.cons.injEq, true_and]; exact ih
theorem R_len (l : List ByteArray) : (R l).length = l.length := by simp
theorem R_app (a b : List ByteArray) : R (a ++ b) = R a ++ R b := by simp
theorem R_cls (l : List ByteArray) : ∀ r ∈ R l, ∀ d ∈ r, Cl d := by simp
theorem cl_R (l : List ByteArray) : Cl (.sl 1 (R l)) := cl_strs l
theorem R_cl (l : List ByteArray) : ∀ d ∈ (R l).flatten, Cl d := by rw [R_flat]; simp
theorem Lst.fzR {Sl : List Nat} {H : Nat → Option Ob} {e : TypeId} {l : List ByteArray} {x : D} (h : Lst Sl H e 1 (R l) x) : Fz H x (.sl 1 (R l)) := h.fz (by decide) (strs1 l) (by simp)
theorem concatStr (ps : List (List ByteArray)) (hp : ps.length ≤ 1048576) (hl : ps.flatten.length ≤ 1099511627776) : Sp Tryz.prog 179 [.sl 1 (ps.map fun p => [.sl 1 (R p)])] (.sl 1 (R ps.flatten)) := by
  have hda : (ps.map fun p => [D.sl 1 (R p)]).length = ps.length := by simp
  have htk : ∀ k, (ps.take k).flatten.length ≤ ps.flatten.length := fun k => by
    have := congrArg (fun l => (List.flatten l).length) (List.take_append_drop k ps)
    simp only [List.flatten_append, List.length_append] at this
    omega
  have hsu : ∀ k (h : k < ps.length), (ps.take (k + 1)).flatten = (ps.take k).flatten ++ ps[k] := fun k h => by
    rw [List.take_succ_eq_append_getElem h, List.flatten_append]; simp
  refine Sp.of_vc [1000033] [.tmp 2] Tryz.func179 rfl (by kernel_rfl) Tryz.ntmps179 rfl (by simp) ?_
  simp only [hda, go_sem, ↓reduceIte, reduceCtorEq, reduceLT, reduceEqDiff, Nat.reduceBEq, reduceAdd, reduceMul, reduceSub, reduceLeDiff, reduceReplicate]
  refine loop_count 11 ps.length (fun k => Fw.Inv 36 [(0, .sl 1 (ps.map fun p => [D.sl 1 (R p)])), (9, .sl 1 (ps.map fun p => [D.sl 1 (R p)])), (10, I ps.length), (3, I ((ps.take k).flatten.length : Nat))] True) rfl ⟨rfl, by simp [envOf, setE], trivial⟩ ?_
  rintro k ⟨env, H, n, nt, T⟩ hk h5 ⟨rfl, hfs, -⟩
  simp only [List.forall_mem_cons] at h5 hfs
  obtain ⟨e0, e9, e10, e3, -⟩ := hfs
  simp only [h5, e0, e9, e10, e3, hda, go_sem, ↓reduceIte, reduceCtorEq, reduceLT, reduceEqDiff, Nat.reduceBEq, reduceAdd, reduceMul, reduceSub, reduceLeDiff, reduceReplicate]
  refine condK_split (fun h => ?_) (fun h => ?_)
  · have hlt : k < ps.length := by simpa using h
    have g0 : (ps.map fun p => [D.sl 1 (R p)])[k]? = some [D.sl 1 (R ps[k])] := by simp [hlt]
    have hdk : (R ps[k]).length = ps[k].length := by simp
    have h1 := htk (k + 1)
    have h2 := hsu k hlt
    rw [h2, List.length_append] at h1
    have w0 : IntKind.i64.wrap (((ps.take k).flatten.length : Nat) + (ps[k].length : Nat) : Int) = (((ps.take (k + 1)).flatten.length : Nat) : Int) := by
      rw [h2, List.length_append]
      have := Go.IntWalk.i64_in (((ps.take k).flatten.length : Nat) + (ps[k].length : Nat) : Int) (by omega)
      rw [this]; omega
    have f0 : decide ((((ps.take (k + 1)).flatten.length : Nat) : Int) < 0) = false := by simp
    simp only [h, h5, e0, e9, e10, e3, g0, hdk, w0, f0, go_sem, ↓reduceIte, reduceCtorEq, reduceLT, reduceEqDiff, Nat.reduceBEq, reduceAdd, reduceMul, reduceSub, reduceLeDiff, reduceReplicate]
    refine nextC_mk (by simp [setE, wrap_succ k (by omega)]) hlt ⟨rfl, by simp only [h5, e0, e9, e10, e3, List.forall_mem_cons, List.not_mem_nil, false_implies, implies_true, setE, ↓reduceIte, Nat.reduceEqDiff, reduceCtorEq, and_true, true_and, and_self, eq_self], trivial⟩
  · have hk' : k = ps.length := by simp at h; omega
    subst hk'
    rw [List.take_length] at e3
    simp only [h, h5, e0, e9, e10, e3, go_sem, ↓reduceIte, reduceCtorEq, reduceLT, reduceEqDiff, Nat.reduceBEq, reduceAdd, reduceMul, reduceSub, reduceLeDiff, reduceReplicate]
    refine callK_fresh 9 1 [] (growStr _ hl) (by simp) ?_
    intro H n x hx hH
    simp only [h5, e0, e9, e10, e3, hda, go_sem, ↓reduceIte, reduceCtorEq, reduceLT, reduceEqDiff, Nat.reduceBEq, reduceAdd, reduceMul, reduceSub, reduceLeDiff, reduceReplicate]
    have el : elemInfo Tryz.prog 29 = some (9, 1, 16) := by kernel_rfl
    refine loop_count 27 ps.length (fun k => Fw.InvE 36 [(25, .sl 1 (ps.map fun p => [D.sl 1 (R p)])), (26, I ps.length)] fun env H n T => Lst [24, 33] H 9 1 (R (ps.take k).flatten) (env 6)) rfl ⟨rfl, by simp [envOf, setE, e0], by simpa [setE] using hx.sub (by simp)⟩ ?_
    clear e0 e9 e10 e3 h5 hx hH h
    rintro k ⟨env, H, n, nt, T⟩ hk h5 ⟨rfl, hfs, hx⟩
    simp only [List.forall_mem_cons] at h5 hfs hx
    obtain ⟨e25, e26, -⟩ := hfs
    simp only [h5, e25, e26, hda, go_sem, ↓reduceIte, reduceCtorEq, reduceLT, reduceEqDiff, Nat.reduceBEq, reduceAdd, reduceMul, reduceSub, reduceLeDiff, reduceReplicate]
    refine condK_split (fun h => ?_) (fun h => ?_)
    · have hlt : k < ps.length := by simpa using h
      have g0 : (ps.map fun p => [D.sl 1 (R p)])[k]? = some [D.sl 1 (R ps[k])] := by simp [hlt]
      have h1 := htk (k + 1)
      have h2 := hsu k hlt
      rw [h2, List.length_append] at h1
      simp only [h, h5, e25, e26, g0, go_sem, ↓reduceIte, reduceCtorEq, reduceLT, reduceEqDiff, Nat.reduceBEq, reduceAdd, reduceMul, reduceSub, reduceLeDiff, reduceReplicate]
      refine GK.app' (rows := R (ps.take k).flatten) (rows2 := R ps[k]) (by decide) el (by simpa [setE] using hx) (strs1 _) (by simp [setE, newsD]) (by intro hz; simp only [setE, if_true]; rw [hz]) (by rw [R_flat]; simp [oneD, Value.oneCell']) (by rw [R_len, R_len]; omega) (by rw [R_len, R_len]; unfold maxLen; omega) fun H' n' x' env' he hx' hH => ?_
      have e27 : env' 27 = I k := by rw [he 27 (by decide)]; simp [setE, h5]
      have e25' : env' 25 = _ := (he 25 (by decide)).trans (by simp [setE]; exact e25)
      have e26' : env' 26 = _ := (he 26 (by decide)).trans (by simp [setE]; exact e26)
      simp only [e27, e25', e26', go_sem, ↓reduceIte, reduceCtorEq, reduceLT, reduceEqDiff, Nat.reduceBEq, reduceAdd, reduceMul, reduceSub, reduceLeDiff, reduceReplicate]
      refine nextC_mk (by simp [setE, wrap_succ k (by omega)]) hlt ⟨rfl, by simp only [e25', e26', List.forall_mem_cons, List.not_mem_nil, false_implies, implies_true, setE, ↓reduceIte, Nat.reduceEqDiff, reduceCtorEq, and_true, true_and, and_self, eq_self], ?_⟩
      simp only [setE, if_true]
      rw [h2, R_app]
      exact hx'.sub (by simp)
    · have hk' : k = ps.length := by simp at h; omega
      subst hk'
      rw [List.take_length] at hx
      simp only [h, h5, e25, e26, go_sem, ↓reduceIte, reduceCtorEq, reduceLT, reduceEqDiff, Nat.reduceBEq, reduceAdd, reduceMul, reduceSub, reduceLeDiff, reduceReplicate]
      exact Lst.fzR hx
theorem l03With (a b : List ByteArray) (hl : a.length + b.length ≤ 1099511627776) : Sp Tryz.prog 142 [.sl 1 (R a), .sl 1 (R b)] (.sl 1 (R (a ++ b))) := by
  have ha : (R a).length = a.length := R_len a
  have hb : (R b).length = b.length := R_len b
  have ha1 : (R a).flatten.all oneD = true := by rw [R_flat]; simp [oneD, Value.oneCell']
  have hb1 : (R b).flatten.all oneD = true := by rw [R_flat]; simp [oneD, Value.oneCell']
  have ha2 : (R a).flatten.length = a.length := by rw [R_flat]; simp
  refine Sp.of_vc [] [.tmp 4] Tryz.func142 rfl (by kernel_rfl) Tryz.ntmps142 rfl (by simp) ?_
  simp only [ha, hb, ha1, hb1, ha2, Nat.mul_one, go_sem, ↓reduceIte, reduceCtorEq, reduceLT, reduceEqDiff, Nat.reduceBEq, reduceAdd, reduceMul, reduceSub, reduceLeDiff, reduceReplicate]
  refine ⟨⟨by omega, by unfold maxLen; omega⟩, ⟨by omega, by unfold maxLen; omega⟩, ?_⟩
  exact Fz.rows (rows := R (a ++ b)) rfl rfl rfl (by decide) (by simp) (strs1 _) (by rw [R_app, List.flatten_append]) (R_cls _)
theorem addFree_step (k v : Int) (n : ByteArray) (tk : Int) (tn : ByteArray) (tks : List Typ) (ns : List ByteArray) (ks : List Term) (hk1 : k = 1 → ks = []) (hkl : ks.length ≤ 1048576) (sc out : List ByteArray)
    (hb : sc.length + (Term.mk k v n (.mk tk tn tks) ns ks).sz + 1 ≤ 1099511627776) (ho : out.length + (Term.mk k v n (.mk tk tn tks) ns ks).num ≤ 1099511627776)
    (hel : ∀ x ∈ ks, ∀ sc' out' : List ByteArray, sc'.length + x.sz + 1 ≤ 1099511627776 → out'.length + x.num ≤ 1099511627776 → SpL Tryz.prog 153 [.ag x.ds, .sl 1 (R sc')] [] 9 1 (R out') (R (freeF x sc' out'))) :
    SpL Tryz.prog 153 [.ag (Term.ds (.mk k v n (.mk tk tn tks) ns ks)), .sl 1 (R sc)] [] 9 1 (R out) (R (freeF (.mk k v n (.mk tk tn tks) ns ks) sc out)) := by
  have hda : (Term.dsL ks).length = ks.length := Term.dsL_len ks
  have el : elemInfo Tryz.prog 29 = some (9, 1, 16) := by kernel_rfl
  simp only [Term.sz] at hb
  simp only [Term.num] at ho
  have hcon := containsStr sc n (by unfold maxLen; omega)
  have hcon2 := containsStr out n (by unfold maxLen; omega)
  simp only [strs] at hcon hcon2
  refine SpL.of_lst [1000030] [.tmp 6] Tryz.func153 rfl (by kernel_rfl) Tryz.ntmps153 rfl (by simp) ?_ ?_ ?_
  · exact R_cl out
  · exact R_cl _
  intro x H n0 hx
  have hx : Lst [2] H 9 1 (R out) x := hx
  have hff : freeF (.mk k v n (.mk tk tn tks) ns ks) sc out = freeS k n ns ks 0 sc (if decide (k = 1) && !hasS sc n && !hasS out n then out ++ [n] else out) := rfl
  simp only [Term.ds, Typ.ds, strs, List.cons_append, List.nil_append, go_sem, ↓reduceIte, reduceCtorEq, reduceLT, reduceEqDiff, Nat.reduceBEq, reduceAdd, reduceMul, reduceSub, reduceLeDiff, reduceReplicate]
  by_cases c1 : k = 1
  · have f1 : (k == 1) = true := by simp [c1]
    have hz := hk1 c1
    simp only [f1, go_sem, ↓reduceIte, reduceCtorEq, reduceLT, reduceEqDiff, Nat.reduceBEq, reduceAdd, reduceMul, reduceSub, reduceLeDiff, reduceReplicate]
    refine callK_intro _ hcon (by simp) ?_
    cases q1 : sc.any (fun x => decide (x = n))
    · simp only [q1, go_sem, ↓reduceIte, reduceCtorEq, reduceLT, reduceEqDiff, Nat.reduceBEq, reduceAdd, reduceMul, reduceSub, reduceLeDiff, reduceReplicate]
      refine callK_frz [.sl 1 (R out), S n] _ hcon2 rfl (by simp only [List.nil_append, List.append_nil, List.zip_cons_cons, List.zip_nil_right, List.forall_mem_cons]; exact ⟨Lst.fzR hx, .cl _ (cl_sc _), by simp⟩) rfl ?_
      cases q2 : out.any (fun x => decide (x = n))
      · simp only [q2, go_sem, ↓reduceIte, reduceCtorEq, reduceLT, reduceEqDiff, Nat.reduceBEq, reduceAdd, reduceMul, reduceSub, reduceLeDiff, reduceReplicate]
        have hr : freeF (.mk k v n (.mk tk tn tks) ns ks) sc out = out ++ [n] := by rw [hff, hz]; simp [freeS, hasS, q1, q2, c1]
        refine GK.intro (opK.app (S := [2]) (rows := R out) (rows2 := R [n]) el (by simp only [setE, if_true, reduceCtorEq, if_false, Nat.reduceEqDiff]; exact hx.congr (by simp [upd])) (strs1 _) (by simp [setE, newsD, upd]) (by simp) (by simp [oneD, Value.oneCell']) (by rw [R_len, R_len]; simp; omega) (by rw [R_len, R_len]; simp only [List.length_cons, List.length_nil]; unfold maxLen; omega) fun H' n' x' hx' hH => ?_)
        simp only [go_sem, ↓reduceIte, reduceCtorEq, reduceLT, reduceEqDiff, Nat.reduceBEq, reduceAdd, reduceMul, reduceSub, reduceLeDiff, reduceReplicate]
        rw [hr, R_app]
        exact hx'.close
      · simp only [q2, go_sem, ↓reduceIte, reduceCtorEq, reduceLT, reduceEqDiff, Nat.reduceBEq, reduceAdd, reduceMul, reduceSub, reduceLeDiff, reduceReplicate]
        have hff2 : freeF (.mk k v n (.mk tk tn tks) ns ks) sc out = freeS k n ns ks 0 sc out := by rw [hff]; simp [hasS, q2]
        simp only [hda, go_sem, ↓reduceIte, reduceCtorEq, reduceLT, reduceEqDiff, Nat.reduceBEq, reduceAdd, reduceMul, reduceSub, reduceLeDiff, reduceReplicate]
        refine loop_count 34 ks.length (fun j => Fw.InvE 50 [(1, .sl 1 (R sc)), (3, .cp [I k, I v, S n, I tk, S tn, .sl 3 (Typ.dsL tks), .sl 1 (R ns), .sl 8 (Term.dsL ks)]), (32, .sl 8 (Term.dsL ks)), (33, I ks.length)] fun env H n' T => Lst [2, 47] H 9 1 (R (freeS k n ns (ks.take j) 0 sc out)) (env 2)) rfl ⟨rfl, by simp [envOf, setE], by simpa [setE, envOf, freeS] using hx.sub (by simp)⟩ ?_
        clear hx f1
        rintro j ⟨env, H, n', nt, T⟩ hj h5 ⟨rfl, hfs, hx⟩
        simp only [List.forall_mem_cons] at h5 hfs hx
        obtain ⟨e1, e3, e32, e33, -⟩ := hfs
        obtain ⟨y, e2⟩ : ∃ y, env 2 = y := ⟨_, rfl⟩
        rw [e2] at hx
        simp only [h5, e1, e2, e3, e32, e33, hda, go_sem, ↓reduceIte, reduceCtorEq, reduceLT, reduceEqDiff, Nat.reduceBEq, reduceAdd, reduceMul, reduceSub, reduceLeDiff, reduceReplicate]
        refine condK_split (fun h => ?_) (fun h => ?_)
        · have hlt : j < ks.length := by simpa using h
          have hmem := List.getElem_mem hlt
          have g0 := Term.dsL_get ks j hlt
          have hd0 := Term.ds_len ks[j]
          have ht0 : List.take 8 ks[j].ds = ks[j].ds := List.take_of_length_le (by omega)
          have ho0 : (ks[j].ds).all oneD = true := by rw [List.all_eq_true]; exact Term.one ks[j]
          have hsz := Term.sz_mem hmem
          have hbl := bindsF_len k n ns j
          have hfl := freeS_len k n ns (ks.take j) 0 sc out
          have hnt := Term.numS_take ks j hlt
          have hnl := Term.numS_le ks (j + 1)
          have hbo := boundAt k v n tk tn tks ns ks j
          have hcc := concatStr [sc, bindsF k n ns j] (by simp) (by simp only [List.flatten_cons, List.flatten_nil, List.append_nil, List.length_append]; omega)
          have hkid := hel ks[j] hmem (sc ++ bindsF k n ns j) (freeS k n ns (ks.take j) 0 sc out) (by rw [List.length_append]; omega) (by omega)
          have hfs := freeS_take (k := k) (n := n) (ns := ns) (sc := sc) ks j 0 out hlt
          rw [Nat.zero_add] at hfs
          rw [← hfs] at hkid
          simp only [Term.ds, Typ.ds, strs, List.cons_append, List.nil_append] at hbo
          simp only [List.map_cons, List.map_nil, List.flatten_cons, List.flatten_nil, List.append_nil] at hcc
          simp only [h, h5, e1, e2, e3, e32, e33, g0, hd0, ht0, ho0, hda, go_sem, ↓reduceIte, reduceCtorEq, reduceLT, reduceEqDiff, Nat.reduceBEq, reduceAdd, reduceMul, reduceSub, reduceLeDiff, reduceReplicate]
          refine drawM_chain [0, 1, 2, 3, 7, 4, 5, 6, 8, 9] [8] [] mixed (by kernel_rfl) ?_
          simp only [h5, e1, e2, e3, hd0, ht0, ho0, List.forall_mem_cons, go_sem, ↓reduceIte, reduceCtorEq, reduceLT, reduceEqDiff, Nat.reduceBEq, reduceAdd, reduceMul, reduceSub, reduceLeDiff, reduceReplicate]
          refine callK_intro _ hbo (by simp; exact ⟨Typ.clL _, Term.clL _⟩) ?_
          simp only [e1, hd0, forall_eq, go_sem, ↓reduceIte, reduceCtorEq, reduceLT, reduceEqDiff, Nat.reduceBEq, reduceAdd, reduceMul, reduceSub, reduceLeDiff, reduceReplicate]
          refine callK_give [44] [.sl 1 [[.sl 1 (R sc)], [.sl 1 (R (bindsF k n ns j))]]] _ hcc rfl (by simp only [List.nil_append, List.append_nil, List.zip_cons_cons, List.zip_nil_right, List.forall_mem_cons]; exact ⟨Fz.rows (ob := ⟨n' 44, 29, 1, [.sl 1 (R sc), .sl 1 (R (bindsF k n ns j))], none⟩) (by simp [onL, upd]) rfl rfl (by decide) rfl (by simp) rfl (by simp only [List.forall_mem_cons]; exact ⟨⟨cl_R _, by simp⟩, ⟨cl_R _, by simp⟩, by simp⟩), by simp⟩) (cl_R _) ?_
          simp only [h5, e1, e2, e3, hd0, forall_eq, offL, go_sem, ↓reduceIte, reduceCtorEq, reduceLT, reduceEqDiff, Nat.reduceBEq, reduceAdd, reduceMul, reduceSub, reduceLeDiff, reduceReplicate]
          refine callK_list [2, 47] [.ag ks[j].ds, .sl 1 (R (sc ++ bindsF k n ns j))] [] y 9 1 _ _ hkid rfl (hx.congr (by simp only [List.forall_mem_cons]; exact ⟨by simp [offL, upd], by simp [offL, upd], by simp⟩)) (by simp only [List.append_nil, List.forall_mem_cons]; exact ⟨Cl.ag' (Term.cl _), cl_R _, by simp⟩) ?_
          intro H' n'' x' hx' hH
          have h8 := hH 8 (by decide) (by decide)
          simp only [h5, e1, e2, e3, e32, e33, forall_eq, h8, offL, go_sem, ↓reduceIte, reduceCtorEq, reduceLT, reduceEqDiff, Nat.reduceBEq, reduceAdd, reduceMul, reduceSub, reduceLeDiff, reduceReplicate]
          refine nextC_mk (by simp [setE, wrap_succ j (by omega)]) hlt ⟨rfl, by simp only [h5, e1, e3, e32, e33, List.forall_mem_cons, List.not_mem_nil, false_implies, implies_true, setE, ↓reduceIte, Nat.reduceEqDiff, reduceCtorEq, and_true, true_and, and_self, eq_self], ?_⟩
          simpa [setE] using hx'.sub (by simp)
        · have hj' : j = ks.length := by simp at h; omega
          subst hj'
          rw [List.take_length] at hx
          simp only [h, h5, e1, e2, e3, e32, e33, go_sem, ↓reduceIte, reduceCtorEq, reduceLT, reduceEqDiff, Nat.reduceBEq, reduceAdd, reduceMul, reduceSub, reduceLeDiff, reduceReplicate]
          rw [hff2]
          exact Lst.close hx
    · simp only [q1, go_sem, ↓reduceIte, reduceCtorEq, reduceLT, reduceEqDiff, Nat.reduceBEq, reduceAdd, reduceMul, reduceSub, reduceLeDiff, reduceReplicate]
      have hff2 : freeF (.mk k v n (.mk tk tn tks) ns ks) sc out = freeS k n ns ks 0 sc out := by rw [hff]; simp [hasS, q1]
      simp only [hda, go_sem, ↓reduceIte, reduceCtorEq, reduceLT, reduceEqDiff, Nat.reduceBEq, reduceAdd, reduceMul, reduceSub, reduceLeDiff, reduceReplicate]
      refine loop_count 34 ks.length (fun j => Fw.InvE 50 [(1, .sl 1 (R sc)), (3, .cp [I k, I v, S n, I tk, S tn, .sl 3 (Typ.dsL tks), .sl 1 (R ns), .sl 8 (Term.dsL ks)]), (32, .sl 8 (Term.dsL ks)), (33, I ks.length)] fun env H n' T => Lst [2, 47] H 9 1 (R (freeS k n ns (ks.take j) 0 sc out)) (env 2)) rfl ⟨rfl, by simp [envOf, setE], by simpa [setE, envOf, freeS] using hx.sub (by simp)⟩ ?_
      clear hx f1
      rintro j ⟨env, H, n', nt, T⟩ hj h5 ⟨rfl, hfs, hx⟩
      simp only [List.forall_mem_cons] at h5 hfs hx
      obtain ⟨e1, e3, e32, e33, -⟩ := hfs
      obtain ⟨y, e2⟩ : ∃ y, env 2 = y := ⟨_, rfl⟩
      rw [e2] at hx
      simp only [h5, e1, e2, e3, e32, e33, hda, go_sem, ↓reduceIte, reduceCtorEq, reduceLT, reduceEqDiff, Nat.reduceBEq, reduceAdd, reduceMul, reduceSub, reduceLeDiff, reduceReplicate]
      refine condK_split (fun h => ?_) (fun h => ?_)
      · have hlt : j < ks.length := by simpa using h
        have hmem := List.getElem_mem hlt
        have g0 := Term.dsL_get ks j hlt
        have hd0 := Term.ds_len ks[j]
        have ht0 : List.take 8 ks[j].ds = ks[j].ds := List.take_of_length_le (by omega)
        have ho0 : (ks[j].ds).all oneD = true := by rw [List.all_eq_true]; exact Term.one ks[j]
        have hsz := Term.sz_mem hmem
        have hbl := bindsF_len k n ns j
        have hfl := freeS_len k n ns (ks.take j) 0 sc out
        have hnt := Term.numS_take ks j hlt
        have hnl := Term.numS_le ks (j + 1)
        have hbo := boundAt k v n tk tn tks ns ks j
        have hcc := concatStr [sc, bindsF k n ns j] (by simp) (by simp only [List.flatten_cons, List.flatten_nil, List.append_nil, List.length_append]; omega)
        have hkid := hel ks[j] hmem (sc ++ bindsF k n ns j) (freeS k n ns (ks.take j) 0 sc out) (by rw [List.length_append]; omega) (by omega)
        have hfs := freeS_take (k := k) (n := n) (ns := ns) (sc := sc) ks j 0 out hlt
        rw [Nat.zero_add] at hfs
        rw [← hfs] at hkid
        simp only [Term.ds, Typ.ds, strs, List.cons_append, List.nil_append] at hbo
        simp only [List.map_cons, List.map_nil, List.flatten_cons, List.flatten_nil, List.append_nil] at hcc
        simp only [h, h5, e1, e2, e3, e32, e33, g0, hd0, ht0, ho0, hda, go_sem, ↓reduceIte, reduceCtorEq, reduceLT, reduceEqDiff, Nat.reduceBEq, reduceAdd, reduceMul, reduceSub, reduceLeDiff, reduceReplicate]
        refine drawM_chain [0, 1, 2, 3, 7, 4, 5, 6, 8, 9] [8] [] mixed (by kernel_rfl) ?_
        simp only [h5, e1, e2, e3, hd0, ht0, ho0, List.forall_mem_cons, go_sem, ↓reduceIte, reduceCtorEq, reduceLT, reduceEqDiff, Nat.reduceBEq, reduceAdd, reduceMul, reduceSub, reduceLeDiff, reduceReplicate]
        refine callK_intro _ hbo (by simp; exact ⟨Typ.clL _, Term.clL _⟩) ?_
        simp only [e1, hd0, forall_eq, go_sem, ↓reduceIte, reduceCtorEq, reduceLT, reduceEqDiff, Nat.reduceBEq, reduceAdd, reduceMul, reduceSub, reduceLeDiff, reduceReplicate]
        refine callK_give [44] [.sl 1 [[.sl 1 (R sc)], [.sl 1 (R (bindsF k n ns j))]]] _ hcc rfl (by simp only [List.nil_append, List.append_nil, List.zip_cons_cons, List.zip_nil_right, List.forall_mem_cons]; exact ⟨Fz.rows (ob := ⟨n' 44, 29, 1, [.sl 1 (R sc), .sl 1 (R (bindsF k n ns j))], none⟩) (by simp [onL, upd]) rfl rfl (by decide) rfl (by simp) rfl (by simp only [List.forall_mem_cons]; exact ⟨⟨cl_R _, by simp⟩, ⟨cl_R _, by simp⟩, by simp⟩), by simp⟩) (cl_R _) ?_
        simp only [h5, e1, e2, e3, hd0, forall_eq, offL, go_sem, ↓reduceIte, reduceCtorEq, reduceLT, reduceEqDiff, Nat.reduceBEq, reduceAdd, reduceMul, reduceSub, reduceLeDiff, reduceReplicate]
        refine callK_list [2, 47] [.ag ks[j].ds, .sl 1 (R (sc ++ bindsF k n ns j))] [] y 9 1 _ _ hkid rfl (hx.congr (by simp only [List.forall_mem_cons]; exact ⟨by simp [offL, upd], by simp [offL, upd], by simp⟩)) (by simp only [List.append_nil, List.forall_mem_cons]; exact ⟨Cl.ag' (Term.cl _), cl_R _, by simp⟩) ?_
        intro H' n'' x' hx' hH
        have h8 := hH 8 (by decide) (by decide)
        simp only [h5, e1, e2, e3, e32, e33, forall_eq, h8, offL, go_sem, ↓reduceIte, reduceCtorEq, reduceLT, reduceEqDiff, Nat.reduceBEq, reduceAdd, reduceMul, reduceSub, reduceLeDiff, reduceReplicate]
        refine nextC_mk (by simp [setE, wrap_succ j (by omega)]) hlt ⟨rfl, by simp only [h5, e1, e3, e32, e33, List.forall_mem_cons, List.not_mem_nil, false_implies, implies_true, setE, ↓reduceIte, Nat.reduceEqDiff, reduceCtorEq, and_true, true_and, and_self, eq_self], ?_⟩
        simpa [setE] using hx'.sub (by simp)
      · have hj' : j = ks.length := by simp at h; omega
        subst hj'
        rw [List.take_length] at hx
        simp only [h, h5, e1, e2, e3, e32, e33, go_sem, ↓reduceIte, reduceCtorEq, reduceLT, reduceEqDiff, Nat.reduceBEq, reduceAdd, reduceMul, reduceSub, reduceLeDiff, reduceReplicate]
        rw [hff2]
        exact Lst.close hx
  · have f1 : (k == 1) = false := by simp [c1]
    simp only [f1, go_sem, ↓reduceIte, reduceCtorEq, reduceLT, reduceEqDiff, Nat.reduceBEq, reduceAdd, reduceMul, reduceSub, reduceLeDiff, reduceReplicate]
    have hff2 : freeF (.mk k v n (.mk tk tn tks) ns ks) sc out = freeS k n ns ks 0 sc out := by rw [hff]; simp [c1]
    simp only [hda, go_sem, ↓reduceIte, reduceCtorEq, reduceLT, reduceEqDiff, Nat.reduceBEq, reduceAdd, reduceMul, reduceSub, reduceLeDiff, reduceReplicate]
    refine loop_count 34 ks.length (fun j => Fw.InvE 50 [(1, .sl 1 (R sc)), (3, .cp [I k, I v, S n, I tk, S tn, .sl 3 (Typ.dsL tks), .sl 1 (R ns), .sl 8 (Term.dsL ks)]), (32, .sl 8 (Term.dsL ks)), (33, I ks.length)] fun env H n' T => Lst [2, 47] H 9 1 (R (freeS k n ns (ks.take j) 0 sc out)) (env 2)) rfl ⟨rfl, by simp [envOf, setE], by simpa [setE, envOf, freeS] using hx.sub (by simp)⟩ ?_
    clear hx f1
    rintro j ⟨env, H, n', nt, T⟩ hj h5 ⟨rfl, hfs, hx⟩
    simp only [List.forall_mem_cons] at h5 hfs hx
    obtain ⟨e1, e3, e32, e33, -⟩ := hfs
    obtain ⟨y, e2⟩ : ∃ y, env 2 = y := ⟨_, rfl⟩
    rw [e2] at hx
    simp only [h5, e1, e2, e3, e32, e33, hda, go_sem, ↓reduceIte, reduceCtorEq, reduceLT, reduceEqDiff, Nat.reduceBEq, reduceAdd, reduceMul, reduceSub, reduceLeDiff, reduceReplicate]
    refine condK_split (fun h => ?_) (fun h => ?_)
    · have hlt : j < ks.length := by simpa using h
      have hmem := List.getElem_mem hlt
      have g0 := Term.dsL_get ks j hlt
      have hd0 := Term.ds_len ks[j]
      have ht0 : List.take 8 ks[j].ds = ks[j].ds := List.take_of_length_le (by omega)
      have ho0 : (ks[j].ds).all oneD = true := by rw [List.all_eq_true]; exact Term.one ks[j]
      have hsz := Term.sz_mem hmem
      have hbl := bindsF_len k n ns j
      have hfl := freeS_len k n ns (ks.take j) 0 sc out
      have hnt := Term.numS_take ks j hlt
      have hnl := Term.numS_le ks (j + 1)
      have hbo := boundAt k v n tk tn tks ns ks j
      have hcc := concatStr [sc, bindsF k n ns j] (by simp) (by simp only [List.flatten_cons, List.flatten_nil, List.append_nil, List.length_append]; omega)
      have hkid := hel ks[j] hmem (sc ++ bindsF k n ns j) (freeS k n ns (ks.take j) 0 sc out) (by rw [List.length_append]; omega) (by omega)
      have hfs := freeS_take (k := k) (n := n) (ns := ns) (sc := sc) ks j 0 out hlt
      rw [Nat.zero_add] at hfs
      rw [← hfs] at hkid
      simp only [Term.ds, Typ.ds, strs, List.cons_append, List.nil_append] at hbo
      simp only [List.map_cons, List.map_nil, List.flatten_cons, List.flatten_nil, List.append_nil] at hcc
      simp only [h, h5, e1, e2, e3, e32, e33, g0, hd0, ht0, ho0, hda, go_sem, ↓reduceIte, reduceCtorEq, reduceLT, reduceEqDiff, Nat.reduceBEq, reduceAdd, reduceMul, reduceSub, reduceLeDiff, reduceReplicate]
      refine drawM_chain [0, 1, 2, 3, 7, 4, 5, 6, 8, 9] [8] [] mixed (by kernel_rfl) ?_
      simp only [h5, e1, e2, e3, hd0, ht0, ho0, List.forall_mem_cons, go_sem, ↓reduceIte, reduceCtorEq, reduceLT, reduceEqDiff, Nat.reduceBEq, reduceAdd, reduceMul, reduceSub, reduceLeDiff, reduceReplicate]
      refine callK_intro _ hbo (by simp; exact ⟨Typ.clL _, Term.clL _⟩) ?_
      simp only [e1, hd0, forall_eq, go_sem, ↓reduceIte, reduceCtorEq, reduceLT, reduceEqDiff, Nat.reduceBEq, reduceAdd, reduceMul, reduceSub, reduceLeDiff, reduceReplicate]
      refine callK_give [44] [.sl 1 [[.sl 1 (R sc)], [.sl 1 (R (bindsF k n ns j))]]] _ hcc rfl (by simp only [List.nil_append, List.append_nil, List.zip_cons_cons, List.zip_nil_right, List.forall_mem_cons]; exact ⟨Fz.rows (ob := ⟨n' 44, 29, 1, [.sl 1 (R sc), .sl 1 (R (bindsF k n ns j))], none⟩) (by simp [onL, upd]) rfl rfl (by decide) rfl (by simp) rfl (by simp only [List.forall_mem_cons]; exact ⟨⟨cl_R _, by simp⟩, ⟨cl_R _, by simp⟩, by simp⟩), by simp⟩) (cl_R _) ?_
      simp only [h5, e1, e2, e3, hd0, forall_eq, offL, go_sem, ↓reduceIte, reduceCtorEq, reduceLT, reduceEqDiff, Nat.reduceBEq, reduceAdd, reduceMul, reduceSub, reduceLeDiff, reduceReplicate]
      refine callK_list [2, 47] [.ag ks[j].ds, .sl 1 (R (sc ++ bindsF k n ns j))] [] y 9 1 _ _ hkid rfl (hx.congr (by simp only [List.forall_mem_cons]; exact ⟨by simp [offL, upd], by simp [offL, upd], by simp⟩)) (by simp only [List.append_nil, List.forall_mem_cons]; exact ⟨Cl.ag' (Term.cl _), cl_R _, by simp⟩) ?_
      intro H' n'' x' hx' hH
      have h8 := hH 8 (by decide) (by decide)
      simp only [h5, e1, e2, e3, e32, e33, forall_eq, h8, offL, go_sem, ↓reduceIte, reduceCtorEq, reduceLT, reduceEqDiff, Nat.reduceBEq, reduceAdd, reduceMul, reduceSub, reduceLeDiff, reduceReplicate]
      refine nextC_mk (by simp [setE, wrap_succ j (by omega)]) hlt ⟨rfl, by simp only [h5, e1, e3, e32, e33, List.forall_mem_cons, List.not_mem_nil, false_implies, implies_true, setE, ↓reduceIte, Nat.reduceEqDiff, reduceCtorEq, and_true, true_and, and_self, eq_self], ?_⟩
      simpa [setE] using hx'.sub (by simp)
    · have hj' : j = ks.length := by simp at h; omega
      subst hj'
      rw [List.take_length] at hx
      simp only [h, h5, e1, e2, e3, e32, e33, go_sem, ↓reduceIte, reduceCtorEq, reduceLT, reduceEqDiff, Nat.reduceBEq, reduceAdd, reduceMul, reduceSub, reduceLeDiff, reduceReplicate]
      rw [hff2]
      exact Lst.close hx
theorem gdM_kids {k v : Int} {n : ByteArray} {ty : Typ} {ns : List ByteArray} {ks : List Term} (h : gdM (.mk k v n ty ns ks) = true) : (k = 1 → ks = []) ∧ ∀ x ∈ ks, gdM x = true := by
  rw [gdM, Term.good, Term.goodS_eq, Bool.and_eq_true, List.all_eq_true] at h
  refine ⟨fun hk => ?_, h.2⟩
  have := h.1
  simp only [tmOk, tmNode, Bool.and_eq_true, inR, decide_eq_true_eq] at this
  have := this.1.1
  simp only [kidsR, hk, true_or, if_true] at this
  exact List.eq_nil_of_length_eq_zero (by omega)
theorem addFree (t : Term) (hg : gdM t = true) (sc out : List ByteArray) (hb : sc.length + t.sz + 1 ≤ 1099511627776) (ho : out.length + t.num ≤ 1099511627776) : SpL Tryz.prog 153 [.ag t.ds, .sl 1 (R sc)] [] 9 1 (R out) (R (freeF t sc out)) := by
  match t, hg, hb, ho with
  | .mk k v n (.mk tk tn tks) ns ks, hg, hb, ho =>
  obtain ⟨h1, h2⟩ := gdM_kids hg
  have hkl : ks.length ≤ 1048576 := by
    by_cases hc : k = 1
    · rw [h1 hc]; simp
    · rw [gdM, Term.good, Bool.and_eq_true] at hg
      have := hg.1
      simp only [tmOk, tmNode, Bool.and_eq_true, inR, decide_eq_true_eq] at this
      have := this.1.1.2
      simp only [kidsR] at this
      repeat' split at this
      all_goals simp only at this
      all_goals omega
  exact addFree_step k v n tk tn tks ns ks h1 hkl sc out hb ho fun x hx sc' out' => addFree x (h2 x hx) sc' out'
termination_by t
decreasing_by all_goals (have := List.sizeOf_lt_of_mem hx; simp; omega)
theorem freeNames (t : Term) (hg : gdM t = true) (hs : t.sz ≤ 1048576) : Sp Tryz.prog 120 [.ag t.ds] (.sl 1 (R (freeF t [] []))) := by
  have hd0 := Term.ds_len t
  have ht0 : List.take 8 t.ds = t.ds := List.take_of_length_le (by omega)
  have ho0 : (t.ds).all oneD = true := by rw [List.all_eq_true]; exact Term.one t
  have hn := Term.num_le_sz t
  have hcl := Term.cl t
  refine Sp.of_vc [] [.tmp 2] Tryz.func120 rfl (by kernel_rfl) Tryz.ntmps120 rfl (by simp) ?_
  simp only [hd0, ht0, ho0, go_sem, ↓reduceIte, reduceCtorEq, reduceLT, reduceEqDiff, Nat.reduceBEq, reduceAdd, reduceMul, reduceSub, reduceLeDiff, reduceReplicate]
  refine callK_list [] [.ag t.ds, .sc (.slice none 0 0)] [] _ 9 1 _ _ ((addFree t hg [] [] (by simp; omega) (by simp; omega)).le2 .rfl .nil) rfl .nil (by simp; exact hcl) ?_
  intro H n x' hx' hH
  simp only [go_sem, ↓reduceIte, reduceCtorEq, reduceLT, reduceEqDiff, Nat.reduceBEq, reduceAdd, reduceMul, reduceSub, reduceLeDiff, reduceReplicate]
  exact Lst.fzR hx'
theorem l03Free_step (k v : Int) (n : ByteArray) (tk : Int) (tn : ByteArray) (tks : List Typ) (ns : List ByteArray) (ks : List Term) (hkl : ks.length ≤ 1048576) (sc out : List ByteArray)
    (hb : sc.length + (Term.mk k v n (.mk tk tn tks) ns ks).sz + 1 ≤ 1099511627776) (ho : out.length + (Term.mk k v n (.mk tk tn tks) ns ks).num ≤ 1099511627776)
    (hel : ∀ x ∈ ks, ∀ sc' out' : List ByteArray, sc'.length + x.sz + 1 ≤ 1099511627776 → out'.length + x.num ≤ 1099511627776 → SpL Tryz.prog 111 [.cp x.ds, .sl 1 (R sc')] [] 9 1 (R out') (R (freeF x sc' out'))) :
    SpL Tryz.prog 111 [.cp (Term.ds (.mk k v n (.mk tk tn tks) ns ks)), .sl 1 (R sc)] [] 9 1 (R out) (R (freeF (.mk k v n (.mk tk tn tks) ns ks) sc out)) := by
  have hda : (Term.dsL ks).length = ks.length := Term.dsL_len ks
  have el : elemInfo Tryz.prog 29 = some (9, 1, 16) := by kernel_rfl
  simp only [Term.sz] at hb
  simp only [Term.num] at ho
  obtain ⟨z1, hcon, hz1⟩ := l03At sc n (by unfold maxLen; omega)
  obtain ⟨z2, hcon2, hz2⟩ := l03At out n (by unfold maxLen; omega)
  simp only [strs] at hcon hcon2
  refine SpL.of_lst [1000037] [.tmp 6] Tryz.func111 rfl (by kernel_rfl) Tryz.ntmps111 rfl (by simp) ?_ ?_ ?_
  · exact R_cl out
  · exact R_cl _
  intro x H n0 hx
  have hx : Lst [2] H 9 1 (R out) x := hx
  have hff : freeF (.mk k v n (.mk tk tn tks) ns ks) sc out = freeS k n ns ks 0 sc (if decide (k = 1) && !hasS sc n && !hasS out n then out ++ [n] else out) := rfl
  simp only [Term.ds, Typ.ds, strs, List.cons_append, List.nil_append, go_sem, ↓reduceIte, reduceCtorEq, reduceLT, reduceEqDiff, Nat.reduceBEq, reduceAdd, reduceMul, reduceSub, reduceLeDiff, reduceReplicate]
  by_cases c1 : k = 1
  · have f1 : (k == 1) = true := by simp [c1]
    simp only [f1, go_sem, ↓reduceIte, reduceCtorEq, reduceLT, reduceEqDiff, Nat.reduceBEq, reduceAdd, reduceMul, reduceSub, reduceLeDiff, reduceReplicate]
    refine callK_intro _ hcon (by simp) ?_
    cases q1 : sc.any (fun x => decide (x = n))
    · have q1' : decide (z1 < 0) = true := by rw [q1] at hz1; simp at hz1; simpa using hz1
      simp only [q1', go_sem, ↓reduceIte, reduceCtorEq, reduceLT, reduceEqDiff, Nat.reduceBEq, reduceAdd, reduceMul, reduceSub, reduceLeDiff, reduceReplicate]
      refine callK_frz [.sl 1 (R out), S n] _ hcon2 rfl (by simp only [List.nil_append, List.append_nil, List.zip_cons_cons, List.zip_nil_right, List.forall_mem_cons]; exact ⟨Lst.fzR hx, .cl _ (cl_sc _), by simp⟩) rfl ?_
      cases q2 : out.any (fun x => decide (x = n))
      · have q2' : decide (z2 < 0) = true := by rw [q2] at hz2; simp at hz2; simpa using hz2
        simp only [q2', go_sem, ↓reduceIte, reduceCtorEq, reduceLT, reduceEqDiff, Nat.reduceBEq, reduceAdd, reduceMul, reduceSub, reduceLeDiff, reduceReplicate]
        refine GK.intro (opK.app (S := [2]) (rows := R out) (rows2 := R [n]) el (by simp only [setE, if_true, reduceCtorEq, if_false, Nat.reduceEqDiff]; exact hx.congr (by simp [upd])) (strs1 _) (by simp [setE, newsD, upd]) (by simp) (by simp [oneD, Value.oneCell']) (by rw [R_len, R_len]; simp; omega) (by rw [R_len, R_len]; simp only [List.length_cons, List.length_nil]; unfold maxLen; omega) fun H' n' x' hx' hH => ?_)
        have hff2 : freeF (.mk k v n (.mk tk tn tks) ns ks) sc out = freeS k n ns ks 0 sc (out ++ [n]) := by rw [hff]; simp [hasS, q1, q2, c1]
        rw [← R_app] at hx'
        have hol : (out ++ [n]).length + Term.numS ks ≤ 1099511627776 := by rw [List.length_append, List.length_singleton]; omega
        try simp only [hda, go_sem, ↓reduceIte, reduceCtorEq, reduceLT, reduceEqDiff, Nat.reduceBEq, reduceAdd, reduceMul, reduceSub, reduceLeDiff, reduceReplicate]
        refine loop_count 7 ks.length (fun j => Fw.InvE 61 [(0, .cp [I k, I v, S n, I tk, S tn, .sl 3 (Typ.dsL tks), .sl 1 (R ns), .sl 8 (Term.dsL ks)]), (1, .sl 1 (R sc))] fun env H n' T => Lst [2, 37, 59] H 9 1 (R (freeS k n ns (ks.take j) 0 sc (out ++ [n]))) (env 2)) rfl ⟨rfl, by simp [envOf, setE], by simpa [setE, envOf, freeS] using (hx').sub (S' := [2, 37, 59]) (by simp)⟩ ?_
        clear hx f1
        rintro j ⟨env, H, n', nt, T⟩ hj h5 ⟨rfl, hfs, hx⟩
        simp only [List.forall_mem_cons] at h5 hfs hx
        obtain ⟨e0, e1, -⟩ := hfs
        obtain ⟨y, e2⟩ : ∃ y, env 2 = y := ⟨_, rfl⟩
        rw [e2] at hx
        simp only [h5, e0, e1, e2, hda, go_sem, ↓reduceIte, reduceCtorEq, reduceLT, reduceEqDiff, Nat.reduceBEq, reduceAdd, reduceMul, reduceSub, reduceLeDiff, reduceReplicate]
        refine condK_split (fun h => ?_) (fun h => ?_)
        · have hlt : j < ks.length := by simpa using h
          have hmem := List.getElem_mem hlt
          have g0 := Term.dsL_get ks j hlt
          have hsz := Term.sz_mem hmem
          have hbl := bindsF_len k n ns j
          have hfl := freeS_len k n ns (ks.take j) 0 sc (out ++ [n])
          have hnt := Term.numS_take ks j hlt
          have hnl := Term.numS_le ks (j + 1)
          have hbo := l03Binds k v n tk tn tks ns ks j
          have hcc := l03With sc (bindsF k n ns j) (by omega)
          have hkid := hel ks[j] hmem (sc ++ bindsF k n ns j) (freeS k n ns (ks.take j) 0 sc (out ++ [n])) (by rw [List.length_append]; omega) (by omega)
          have hfs := freeS_take (k := k) (n := n) (ns := ns) (sc := sc) ks j 0 (out ++ [n]) hlt
          rw [Nat.zero_add] at hfs
          rw [← hfs] at hkid
          simp only [Term.ds, Typ.ds, strs, List.cons_append, List.nil_append] at hbo
          simp only [h, h5, e0, e1, e2, g0, hda, go_sem, ↓reduceIte, reduceCtorEq, reduceLT, reduceEqDiff, Nat.reduceBEq, reduceAdd, reduceMul, reduceSub, reduceLeDiff, reduceReplicate]
          refine drawK_chain [0, 1, 2, 3, 4, 5, 6, 7, 8, 11, 9, 10, 12, 13] [] [] mixed (by kernel_rfl) ?_
          simp only [h5, e0, e1, e2, g0, go_sem, ↓reduceIte, reduceCtorEq, reduceLT, reduceEqDiff, Nat.reduceBEq, reduceAdd, reduceMul, reduceSub, reduceLeDiff, reduceReplicate]
          refine callK_intro _ hbo (by simp; exact ⟨Typ.clL _, Term.clL _⟩) ?_
          simp only [e1, go_sem, ↓reduceIte, reduceCtorEq, reduceLT, reduceEqDiff, Nat.reduceBEq, reduceAdd, reduceMul, reduceSub, reduceLeDiff, reduceReplicate]
          refine callK_intro _ hcc (by simp only [List.nil_append, List.append_nil, List.forall_mem_cons]; exact ⟨cl_R _, cl_R _, by simp⟩) ?_
          simp only [h5, e0, e1, e2, go_sem, ↓reduceIte, reduceCtorEq, reduceLT, reduceEqDiff, Nat.reduceBEq, reduceAdd, reduceMul, reduceSub, reduceLeDiff, reduceReplicate]
          refine callK_list [2, 37, 59] [.cp ks[j].ds, .sl 1 (R (sc ++ bindsF k n ns j))] [] y 9 1 _ _ hkid rfl hx (by simp only [List.append_nil, List.forall_mem_cons]; exact ⟨Cl.cp' (Term.cl _), cl_R _, by simp⟩) ?_
          intro H' n'' x' hx' hH
          simp only [h5, e0, e1, e2, go_sem, ↓reduceIte, reduceCtorEq, reduceLT, reduceEqDiff, Nat.reduceBEq, reduceAdd, reduceMul, reduceSub, reduceLeDiff, reduceReplicate]
          refine nextC_mk (by simp [setE, wrap_succ j (by omega)]) hlt ⟨rfl, by simp only [h5, e0, e1, List.forall_mem_cons, List.not_mem_nil, false_implies, implies_true, setE, ↓reduceIte, Nat.reduceEqDiff, reduceCtorEq, and_true, true_and, and_self, eq_self], ?_⟩
          simpa [setE] using hx'.sub (S' := [2, 37, 59]) (by simp)
        · have hj' : j = ks.length := by simp at h; omega
          subst hj'
          rw [List.take_length] at hx
          simp only [h, h5, e0, e1, e2, hda, go_sem, ↓reduceIte, reduceCtorEq, reduceLT, reduceEqDiff, Nat.reduceBEq, reduceAdd, reduceMul, reduceSub, reduceLeDiff, reduceReplicate]
          rw [hff2]
          exact Lst.close hx
      · have q2' : decide (z2 < 0) = false := by rw [q2] at hz2; simp at hz2; simpa using hz2
        simp only [q2', go_sem, ↓reduceIte, reduceCtorEq, reduceLT, reduceEqDiff, Nat.reduceBEq, reduceAdd, reduceMul, reduceSub, reduceLeDiff, reduceReplicate]
        have hff2 : freeF (.mk k v n (.mk tk tn tks) ns ks) sc out = freeS k n ns ks 0 sc out := by rw [hff]; simp [hasS, q2]
        have hol : out.length + Term.numS ks ≤ 1099511627776 := by omega
        try simp only [hda, go_sem, ↓reduceIte, reduceCtorEq, reduceLT, reduceEqDiff, Nat.reduceBEq, reduceAdd, reduceMul, reduceSub, reduceLeDiff, reduceReplicate]
        refine loop_count 7 ks.length (fun j => Fw.InvE 61 [(0, .cp [I k, I v, S n, I tk, S tn, .sl 3 (Typ.dsL tks), .sl 1 (R ns), .sl 8 (Term.dsL ks)]), (1, .sl 1 (R sc))] fun env H n' T => Lst [2, 37, 59] H 9 1 (R (freeS k n ns (ks.take j) 0 sc (out))) (env 2)) rfl ⟨rfl, by simp [envOf, setE], by simpa [setE, envOf, freeS] using (hx).sub (S' := [2, 37, 59]) (by simp)⟩ ?_
        clear hx f1
        rintro j ⟨env, H, n', nt, T⟩ hj h5 ⟨rfl, hfs, hx⟩
        simp only [List.forall_mem_cons] at h5 hfs hx
        obtain ⟨e0, e1, -⟩ := hfs
        obtain ⟨y, e2⟩ : ∃ y, env 2 = y := ⟨_, rfl⟩
        rw [e2] at hx
        simp only [h5, e0, e1, e2, hda, go_sem, ↓reduceIte, reduceCtorEq, reduceLT, reduceEqDiff, Nat.reduceBEq, reduceAdd, reduceMul, reduceSub, reduceLeDiff, reduceReplicate]
        refine condK_split (fun h => ?_) (fun h => ?_)
        · have hlt : j < ks.length := by simpa using h
          have hmem := List.getElem_mem hlt
          have g0 := Term.dsL_get ks j hlt
          have hsz := Term.sz_mem hmem
          have hbl := bindsF_len k n ns j
          have hfl := freeS_len k n ns (ks.take j) 0 sc (out)
          have hnt := Term.numS_take ks j hlt
          have hnl := Term.numS_le ks (j + 1)
          have hbo := l03Binds k v n tk tn tks ns ks j
          have hcc := l03With sc (bindsF k n ns j) (by omega)
          have hkid := hel ks[j] hmem (sc ++ bindsF k n ns j) (freeS k n ns (ks.take j) 0 sc (out)) (by rw [List.length_append]; omega) (by omega)
          have hfs := freeS_take (k := k) (n := n) (ns := ns) (sc := sc) ks j 0 (out) hlt
          rw [Nat.zero_add] at hfs
          rw [← hfs] at hkid
          simp only [Term.ds, Typ.ds, strs, List.cons_append, List.nil_append] at hbo
          simp only [h, h5, e0, e1, e2, g0, hda, go_sem, ↓reduceIte, reduceCtorEq, reduceLT, reduceEqDiff, Nat.reduceBEq, reduceAdd, reduceMul, reduceSub, reduceLeDiff, reduceReplicate]
          refine drawK_chain [0, 1, 2, 3, 4, 5, 6, 7, 8, 11, 9, 10, 12, 13] [] [] mixed (by kernel_rfl) ?_
          simp only [h5, e0, e1, e2, g0, go_sem, ↓reduceIte, reduceCtorEq, reduceLT, reduceEqDiff, Nat.reduceBEq, reduceAdd, reduceMul, reduceSub, reduceLeDiff, reduceReplicate]
          refine callK_intro _ hbo (by simp; exact ⟨Typ.clL _, Term.clL _⟩) ?_
          simp only [e1, go_sem, ↓reduceIte, reduceCtorEq, reduceLT, reduceEqDiff, Nat.reduceBEq, reduceAdd, reduceMul, reduceSub, reduceLeDiff, reduceReplicate]
          refine callK_intro _ hcc (by simp only [List.nil_append, List.append_nil, List.forall_mem_cons]; exact ⟨cl_R _, cl_R _, by simp⟩) ?_
          simp only [h5, e0, e1, e2, go_sem, ↓reduceIte, reduceCtorEq, reduceLT, reduceEqDiff, Nat.reduceBEq, reduceAdd, reduceMul, reduceSub, reduceLeDiff, reduceReplicate]
          refine callK_list [2, 37, 59] [.cp ks[j].ds, .sl 1 (R (sc ++ bindsF k n ns j))] [] y 9 1 _ _ hkid rfl hx (by simp only [List.append_nil, List.forall_mem_cons]; exact ⟨Cl.cp' (Term.cl _), cl_R _, by simp⟩) ?_
          intro H' n'' x' hx' hH
          simp only [h5, e0, e1, e2, go_sem, ↓reduceIte, reduceCtorEq, reduceLT, reduceEqDiff, Nat.reduceBEq, reduceAdd, reduceMul, reduceSub, reduceLeDiff, reduceReplicate]
          refine nextC_mk (by simp [setE, wrap_succ j (by omega)]) hlt ⟨rfl, by simp only [h5, e0, e1, List.forall_mem_cons, List.not_mem_nil, false_implies, implies_true, setE, ↓reduceIte, Nat.reduceEqDiff, reduceCtorEq, and_true, true_and, and_self, eq_self], ?_⟩
          simpa [setE] using hx'.sub (S' := [2, 37, 59]) (by simp)
        · have hj' : j = ks.length := by simp at h; omega
          subst hj'
          rw [List.take_length] at hx
          simp only [h, h5, e0, e1, e2, hda, go_sem, ↓reduceIte, reduceCtorEq, reduceLT, reduceEqDiff, Nat.reduceBEq, reduceAdd, reduceMul, reduceSub, reduceLeDiff, reduceReplicate]
          rw [hff2]
          exact Lst.close hx
    · have q1' : decide (z1 < 0) = false := by rw [q1] at hz1; simp at hz1; simpa using hz1
      simp only [q1', go_sem, ↓reduceIte, reduceCtorEq, reduceLT, reduceEqDiff, Nat.reduceBEq, reduceAdd, reduceMul, reduceSub, reduceLeDiff, reduceReplicate]
      have hff2 : freeF (.mk k v n (.mk tk tn tks) ns ks) sc out = freeS k n ns ks 0 sc out := by rw [hff]; simp [hasS, q1]
      have hol : out.length + Term.numS ks ≤ 1099511627776 := by omega
      try simp only [hda, go_sem, ↓reduceIte, reduceCtorEq, reduceLT, reduceEqDiff, Nat.reduceBEq, reduceAdd, reduceMul, reduceSub, reduceLeDiff, reduceReplicate]
      refine loop_count 7 ks.length (fun j => Fw.InvE 61 [(0, .cp [I k, I v, S n, I tk, S tn, .sl 3 (Typ.dsL tks), .sl 1 (R ns), .sl 8 (Term.dsL ks)]), (1, .sl 1 (R sc))] fun env H n' T => Lst [2, 37, 59] H 9 1 (R (freeS k n ns (ks.take j) 0 sc (out))) (env 2)) rfl ⟨rfl, by simp [envOf, setE], by simpa [setE, envOf, freeS] using (hx).sub (S' := [2, 37, 59]) (by simp)⟩ ?_
      clear hx f1
      rintro j ⟨env, H, n', nt, T⟩ hj h5 ⟨rfl, hfs, hx⟩
      simp only [List.forall_mem_cons] at h5 hfs hx
      obtain ⟨e0, e1, -⟩ := hfs
      obtain ⟨y, e2⟩ : ∃ y, env 2 = y := ⟨_, rfl⟩
      rw [e2] at hx
      simp only [h5, e0, e1, e2, hda, go_sem, ↓reduceIte, reduceCtorEq, reduceLT, reduceEqDiff, Nat.reduceBEq, reduceAdd, reduceMul, reduceSub, reduceLeDiff, reduceReplicate]
      refine condK_split (fun h => ?_) (fun h => ?_)
      · have hlt : j < ks.length := by simpa using h
        have hmem := List.getElem_mem hlt
        have g0 := Term.dsL_get ks j hlt
        have hsz := Term.sz_mem hmem
        have hbl := bindsF_len k n ns j
        have hfl := freeS_len k n ns (ks.take j) 0 sc (out)
        have hnt := Term.numS_take ks j hlt
        have hnl := Term.numS_le ks (j + 1)
        have hbo := l03Binds k v n tk tn tks ns ks j
        have hcc := l03With sc (bindsF k n ns j) (by omega)
        have hkid := hel ks[j] hmem (sc ++ bindsF k n ns j) (freeS k n ns (ks.take j) 0 sc (out)) (by rw [List.length_append]; omega) (by omega)
        have hfs := freeS_take (k := k) (n := n) (ns := ns) (sc := sc) ks j 0 (out) hlt
        rw [Nat.zero_add] at hfs
        rw [← hfs] at hkid
        simp only [Term.ds, Typ.ds, strs, List.cons_append, List.nil_append] at hbo
        simp only [h, h5, e0, e1, e2, g0, hda, go_sem, ↓reduceIte, reduceCtorEq, reduceLT, reduceEqDiff, Nat.reduceBEq, reduceAdd, reduceMul, reduceSub, reduceLeDiff, reduceReplicate]
        refine drawK_chain [0, 1, 2, 3, 4, 5, 6, 7, 8, 11, 9, 10, 12, 13] [] [] mixed (by kernel_rfl) ?_
        simp only [h5, e0, e1, e2, g0, go_sem, ↓reduceIte, reduceCtorEq, reduceLT, reduceEqDiff, Nat.reduceBEq, reduceAdd, reduceMul, reduceSub, reduceLeDiff, reduceReplicate]
        refine callK_intro _ hbo (by simp; exact ⟨Typ.clL _, Term.clL _⟩) ?_
        simp only [e1, go_sem, ↓reduceIte, reduceCtorEq, reduceLT, reduceEqDiff, Nat.reduceBEq, reduceAdd, reduceMul, reduceSub, reduceLeDiff, reduceReplicate]
        refine callK_intro _ hcc (by simp only [List.nil_append, List.append_nil, List.forall_mem_cons]; exact ⟨cl_R _, cl_R _, by simp⟩) ?_
        simp only [h5, e0, e1, e2, go_sem, ↓reduceIte, reduceCtorEq, reduceLT, reduceEqDiff, Nat.reduceBEq, reduceAdd, reduceMul, reduceSub, reduceLeDiff, reduceReplicate]
        refine callK_list [2, 37, 59] [.cp ks[j].ds, .sl 1 (R (sc ++ bindsF k n ns j))] [] y 9 1 _ _ hkid rfl hx (by simp only [List.append_nil, List.forall_mem_cons]; exact ⟨Cl.cp' (Term.cl _), cl_R _, by simp⟩) ?_
        intro H' n'' x' hx' hH
        simp only [h5, e0, e1, e2, go_sem, ↓reduceIte, reduceCtorEq, reduceLT, reduceEqDiff, Nat.reduceBEq, reduceAdd, reduceMul, reduceSub, reduceLeDiff, reduceReplicate]
        refine nextC_mk (by simp [setE, wrap_succ j (by omega)]) hlt ⟨rfl, by simp only [h5, e0, e1, List.forall_mem_cons, List.not_mem_nil, false_implies, implies_true, setE, ↓reduceIte, Nat.reduceEqDiff, reduceCtorEq, and_true, true_and, and_self, eq_self], ?_⟩
        simpa [setE] using hx'.sub (S' := [2, 37, 59]) (by simp)
      · have hj' : j = ks.length := by simp at h; omega
        subst hj'
        rw [List.take_length] at hx
        simp only [h, h5, e0, e1, e2, hda, go_sem, ↓reduceIte, reduceCtorEq, reduceLT, reduceEqDiff, Nat.reduceBEq, reduceAdd, reduceMul, reduceSub, reduceLeDiff, reduceReplicate]
        rw [hff2]
        exact Lst.close hx
  · have f1 : (k == 1) = false := by simp [c1]
    simp only [f1, go_sem, ↓reduceIte, reduceCtorEq, reduceLT, reduceEqDiff, Nat.reduceBEq, reduceAdd, reduceMul, reduceSub, reduceLeDiff, reduceReplicate]
    have hff2 : freeF (.mk k v n (.mk tk tn tks) ns ks) sc out = freeS k n ns ks 0 sc out := by rw [hff]; simp [c1]
    have hol : out.length + Term.numS ks ≤ 1099511627776 := by omega
    try simp only [hda, go_sem, ↓reduceIte, reduceCtorEq, reduceLT, reduceEqDiff, Nat.reduceBEq, reduceAdd, reduceMul, reduceSub, reduceLeDiff, reduceReplicate]
    refine loop_count 7 ks.length (fun j => Fw.InvE 61 [(0, .cp [I k, I v, S n, I tk, S tn, .sl 3 (Typ.dsL tks), .sl 1 (R ns), .sl 8 (Term.dsL ks)]), (1, .sl 1 (R sc))] fun env H n' T => Lst [2, 37, 59] H 9 1 (R (freeS k n ns (ks.take j) 0 sc (out))) (env 2)) rfl ⟨rfl, by simp [envOf, setE], by simpa [setE, envOf, freeS] using (hx).sub (S' := [2, 37, 59]) (by simp)⟩ ?_
    clear hx f1
    rintro j ⟨env, H, n', nt, T⟩ hj h5 ⟨rfl, hfs, hx⟩
    simp only [List.forall_mem_cons] at h5 hfs hx
    obtain ⟨e0, e1, -⟩ := hfs
    obtain ⟨y, e2⟩ : ∃ y, env 2 = y := ⟨_, rfl⟩
    rw [e2] at hx
    simp only [h5, e0, e1, e2, hda, go_sem, ↓reduceIte, reduceCtorEq, reduceLT, reduceEqDiff, Nat.reduceBEq, reduceAdd, reduceMul, reduceSub, reduceLeDiff, reduceReplicate]
    refine condK_split (fun h => ?_) (fun h => ?_)
    · have hlt : j < ks.length := by simpa using h
      have hmem := List.getElem_mem hlt
      have g0 := Term.dsL_get ks j hlt
      have hsz := Term.sz_mem hmem
      have hbl := bindsF_len k n ns j
      have hfl := freeS_len k n ns (ks.take j) 0 sc (out)
      have hnt := Term.numS_take ks j hlt
      have hnl := Term.numS_le ks (j + 1)
      have hbo := l03Binds k v n tk tn tks ns ks j
      have hcc := l03With sc (bindsF k n ns j) (by omega)
      have hkid := hel ks[j] hmem (sc ++ bindsF k n ns j) (freeS k n ns (ks.take j) 0 sc (out)) (by rw [List.length_append]; omega) (by omega)
      have hfs := freeS_take (k := k) (n := n) (ns := ns) (sc := sc) ks j 0 (out) hlt
      rw [Nat.zero_add] at hfs
      rw [← hfs] at hkid
      simp only [Term.ds, Typ.ds, strs, List.cons_append, List.nil_append] at hbo
      simp only [h, h5, e0, e1, e2, g0, hda, go_sem, ↓reduceIte, reduceCtorEq, reduceLT, reduceEqDiff, Nat.reduceBEq, reduceAdd, reduceMul, reduceSub, reduceLeDiff, reduceReplicate]
      refine drawK_chain [0, 1, 2, 3, 4, 5, 6, 7, 8, 11, 9, 10, 12, 13] [] [] mixed (by kernel_rfl) ?_
      simp only [h5, e0, e1, e2, g0, go_sem, ↓reduceIte, reduceCtorEq, reduceLT, reduceEqDiff, Nat.reduceBEq, reduceAdd, reduceMul, reduceSub, reduceLeDiff, reduceReplicate]
      refine callK_intro _ hbo (by simp; exact ⟨Typ.clL _, Term.clL _⟩) ?_
      simp only [e1, go_sem, ↓reduceIte, reduceCtorEq, reduceLT, reduceEqDiff, Nat.reduceBEq, reduceAdd, reduceMul, reduceSub, reduceLeDiff, reduceReplicate]
      refine callK_intro _ hcc (by simp only [List.nil_append, List.append_nil, List.forall_mem_cons]; exact ⟨cl_R _, cl_R _, by simp⟩) ?_
      simp only [h5, e0, e1, e2, go_sem, ↓reduceIte, reduceCtorEq, reduceLT, reduceEqDiff, Nat.reduceBEq, reduceAdd, reduceMul, reduceSub, reduceLeDiff, reduceReplicate]
      refine callK_list [2, 37, 59] [.cp ks[j].ds, .sl 1 (R (sc ++ bindsF k n ns j))] [] y 9 1 _ _ hkid rfl hx (by simp only [List.append_nil, List.forall_mem_cons]; exact ⟨Cl.cp' (Term.cl _), cl_R _, by simp⟩) ?_
      intro H' n'' x' hx' hH
      simp only [h5, e0, e1, e2, go_sem, ↓reduceIte, reduceCtorEq, reduceLT, reduceEqDiff, Nat.reduceBEq, reduceAdd, reduceMul, reduceSub, reduceLeDiff, reduceReplicate]
      refine nextC_mk (by simp [setE, wrap_succ j (by omega)]) hlt ⟨rfl, by simp only [h5, e0, e1, List.forall_mem_cons, List.not_mem_nil, false_implies, implies_true, setE, ↓reduceIte, Nat.reduceEqDiff, reduceCtorEq, and_true, true_and, and_self, eq_self], ?_⟩
      simpa [setE] using hx'.sub (S' := [2, 37, 59]) (by simp)
    · have hj' : j = ks.length := by simp at h; omega
      subst hj'
      rw [List.take_length] at hx
      simp only [h, h5, e0, e1, e2, hda, go_sem, ↓reduceIte, reduceCtorEq, reduceLT, reduceEqDiff, Nat.reduceBEq, reduceAdd, reduceMul, reduceSub, reduceLeDiff, reduceReplicate]
      rw [hff2]
      exact Lst.close hx
theorem l03Free (t : Term) (hg : gdM t = true) (sc out : List ByteArray) (hb : sc.length + t.sz + 1 ≤ 1099511627776) (ho : out.length + t.num ≤ 1099511627776) : SpL Tryz.prog 111 [.cp t.ds, .sl 1 (R sc)] [] 9 1 (R out) (R (freeF t sc out)) := by
  match t, hg, hb, ho with
  | .mk k v n (.mk tk tn tks) ns ks, hg, hb, ho =>
  obtain ⟨h1, h2⟩ := gdM_kids hg
  have hkl : ks.length ≤ 1048576 := by
    rw [gdM, Term.good, Bool.and_eq_true] at hg
    have := hg.1
    simp only [tmOk, tmNode, Bool.and_eq_true, inR, decide_eq_true_eq] at this
    have := this.1.1.2
    simp only [kidsR] at this
    repeat' split at this
    all_goals simp only at this
    all_goals omega
  exact l03Free_step k v n tk tn tks ns ks hkl sc out hb ho fun x hx sc' out' => l03Free x (h2 x hx) sc' out'
termination_by t
decreasing_by all_goals (have := List.sizeOf_lt_of_mem hx; simp; omega)
end Go.Proofs.YtcidmkcicagpaaaGreat
