/-
  Contracts over data of copies of types, of the program and of the reference. No condition.
-/
import Derived.Test.YtcidmkcicagpaaaGreatP2
import Derived.Test.YtcidmkcicagpaaaGreatFw9
set_option maxRecDepth 100000
set_option linter.unusedSimpArgs false
set_option linter.unusedVariables false
namespace Go.Proofs.YtcidmkcicagpaaaGreat
open Go.Fw
open Nat (reduceLT reduceEqDiff reduceAdd reduceMul reduceSub reduceLeDiff)
open List (reduceReplicate)
theorem Typ.o3 (x : Typ) : ∃ e T, O3 (.ag x.ds) e T := by
  cases x
  exact ⟨_, _, .one (.ag (by simp only [Typ.ds]; repeat first | exact OL.nil | apply OL.sc' | apply OL.tr0))⟩
theorem copyType_step (k0 : Int) (nm : ByteArray) (ks : List Typ) (hl : ks.length ≤ 1048576) (hel : ∀ x ∈ ks, SpG Tryz.prog 72 [.ag x.ds] [] [] (.ag x.ds)) :
    SpG Tryz.prog 72 [.ag (Typ.ds (.mk k0 nm ks))] [] [] (.ag (Typ.ds (.mk k0 nm ks))) := by
  have hda : (Typ.dsL ks).length = ks.length := Typ.dsL_len ks
  refine SpG.of_vc [] [.cell 2 46] Tryz.func72 rfl (by kernel_rfl) Tryz.ntmps72 rfl (by simp) rfl ?_
  simp only [Typ.ds, hda, go_sem, ↓reduceIte, reduceCtorEq, reduceLT, reduceEqDiff, Nat.reduceBEq, reduceAdd, reduceMul, reduceSub, reduceLeDiff, reduceReplicate]
  refine loop_count 14 ks.length (fun k => Fw.InvT 27 [(12, .sl 3 (Typ.dsL ks)), (13, I ks.length), (2, .rf 2 0 0), (3, .rf 3 0 0)] fun H n T => ∃ x, (∃ c, H 2 = some ⟨0, 46, 3, c, none⟩ ∧ c.length = 3) ∧ H 3 = some ⟨0, 46, 3, [I k0, S nm, x], none⟩ ∧ App H 23 46 3 (Typ.dsL (ks.take k)) x T) rfl ⟨rfl, ?_, ?_⟩ ?_
  · simp [envOf, setE]
  · exact ⟨_, ⟨_, rfl, rfl⟩, rfl, .inl ⟨by simp [Typ.dsL_eq], rfl, rfl⟩⟩
  rintro k ⟨env, H, n, nt, T⟩ hk h5 ⟨rfl, hfs, x, ⟨c2, hH2, hc2⟩, hH3, hA⟩
  simp only [List.forall_mem_cons] at h5 hfs hH2 hH3 hA
  obtain ⟨e0, e1, e2, e3, -⟩ := hfs
  simp only [h5, e0, e1, e2, e3, go_sem, ↓reduceIte, reduceCtorEq, reduceLT, reduceEqDiff, Nat.reduceBEq, reduceAdd, reduceMul, reduceSub, reduceLeDiff, reduceReplicate]
  refine condK_split (fun h => ?_) (fun h => ?_)
  · have hlt : k < ks.length := by simpa using h
    have hx := List.getElem_mem hlt
    have g0 := Typ.dsL_get ks k hlt
    have hd0 := Typ.ds_len ks[k]
    have ht0 : List.take 3 ks[k].ds = ks[k].ds := List.take_of_length_le (by omega)
    have ho0 : (ks[k].ds).all oneD = true := by rw [List.all_eq_true]; exact Typ.one ks[k]
    have hrow : Typ.dsL (ks.take (k + 1)) = Typ.dsL (ks.take k) ++ [ks[k].ds] := by simp only [Typ.dsL_eq]; rw [List.take_succ_eq_append_getElem hlt, List.map_append]; rfl
    have hlk : (Typ.dsL (ks.take k)).length = k := by rw [Typ.dsL_len, List.length_take]; omega
    simp only [h, h5, e0, e1, e2, e3, g0, hd0, ht0, ho0, hH3, List.take_zero, List.nil_append, go_sem, ↓reduceIte, reduceCtorEq, reduceLT, reduceEqDiff, Nat.reduceBEq, reduceAdd, reduceMul, reduceSub, reduceLeDiff, reduceReplicate]
    rcases hA with ⟨hk0, rfl, rfl⟩ | ⟨hk0, gn, cs, rfl, hH, hcs⟩
    · refine drawM_intro (fun _ => (true, .ag ks[k].ds)) [] mixed (by kernel_rfl) ?_
      simp only [h, h5, e0, e1, e2, e3, g0, hd0, ht0, ho0, hH3, List.take_zero, List.nil_append, go_sem, ↓reduceIte, reduceCtorEq, reduceLT, reduceEqDiff, Nat.reduceBEq, reduceAdd, reduceMul, reduceSub, reduceLeDiff, reduceReplicate]
      refine callM_new _ rfl (hel ks[k] hx) (by simp; exact Typ.cl _) (Typ.o3 _) ?_
      intro e T' hO
      obtain ⟨es, rfl, ho⟩ := o3_ag hO
      have hes : es.length = 3 := ho.len.trans hd0
      have hes1 : es.all oneD = true := by rw [List.all_eq_true]; exact ho.one (Typ.one ks[k])
      simp only [h5, e0, e1, e2, e3, hH3, hes, hes1, go_sem, ↓reduceIte, reduceCtorEq, reduceLT, reduceEqDiff, Nat.reduceBEq, reduceAdd, reduceMul, reduceSub, reduceLeDiff, reduceReplicate]
      refine ⟨by simp [maxLen], ?_⟩
      refine nextC_mk (by simp [setE, wrap_succ k (by omega)]) hlt ⟨rfl, by simp [setE, e0, e1, e2, e3], _, ⟨c2, ?_, hc2⟩, rfl, .inr ⟨?_, n 23, es, ?_, ?_, ?_⟩⟩
      · simp [upd, hH2]
      · rw [hrow]; simp
      · rw [hrow, hk0]; rfl
      · simp [upd]
      · rw [hrow, hk0]; simpa using ho
    · have hcl : cs.length = k * 3 := by rw [hcs.len, flatten_len (Typ.rows_len _), hlk]
      refine drawM_intro (fun _ => (true, .ag ks[k].ds)) [] mixed (by kernel_rfl) ?_
      simp only [h, h5, e0, e1, e2, e3, g0, hd0, ht0, ho0, hH3, List.take_zero, List.nil_append, go_sem, ↓reduceIte, reduceCtorEq, reduceLT, reduceEqDiff, Nat.reduceBEq, reduceAdd, reduceMul, reduceSub, reduceLeDiff, reduceReplicate]
      refine callM_new _ rfl (hel ks[k] hx) (by simp; exact Typ.cl _) (Typ.o3 _) ?_
      intro e T' hO
      obtain ⟨es, rfl, ho⟩ := o3_ag hO
      have hes : es.length = 3 := ho.len.trans hd0
      have hes1 : es.all oneD = true := by rw [List.all_eq_true]; exact ho.one (Typ.one ks[k])
      simp only [h5, e0, e1, e2, e3, hH3, hH, hcl, hlk, hes, hes1, go_sem, ↓reduceIte, reduceCtorEq, reduceLT, reduceEqDiff, Nat.reduceBEq, reduceAdd, reduceMul, reduceSub, reduceLeDiff, reduceReplicate]
      refine ⟨⟨by omega, by simp [maxLen]; omega⟩, ?_⟩
      refine nextC_mk (by simp [setE, wrap_succ k (by omega)]) hlt ⟨rfl, by simp [setE, e0, e1, e2, e3], _, ⟨c2, ?_, hc2⟩, rfl, .inr ⟨?_, n 23, cs ++ es, ?_, ?_, ?_⟩⟩
      · simp [upd, hH2]
      · rw [hrow]; simp
      · rw [hrow]; simp [hlk]
      · simp [upd]
      · rw [hrow]; simpa using hcs.app ho
  · have hk' : k = ks.length := by simp at h; omega
    subst hk'
    rw [List.take_length] at hA
    obtain ⟨y0, y1, y2, rfl⟩ : ∃ a b c, c2 = [a, b, c] := by
      match c2, hc2 with
      | [a, b, c], _ => exact ⟨a, b, c, rfl⟩
    simp only [h, e2, e3, hH2, hH3, go_sem, ↓reduceIte, reduceCtorEq, reduceLT, reduceEqDiff, Nat.reduceBEq, reduceAdd, reduceMul, reduceSub, reduceLeDiff, reduceReplicate]
    refine ⟨hA.one, ?_⟩
    obtain ⟨us, u1, u2, u3⟩ := (hA.congr (H' := upd H 2 (some ⟨0, 46, 3, [I k0, S nm, x], none⟩)) (by simp [upd])).c1 (by decide) (Typ.rows_len ks)
    exact closeK_mix (.cons (.sc _) (.cons (.sc _) (.cons u1 .nil))) (by simpa using u2) (by simp; rcases u3 with e | e <;> rw [e] <;> simp)
theorem copyType (t : Typ) (hs : t.sz ≤ 1048576) : SpG Tryz.prog 72 [.ag t.ds] [] [] (.ag t.ds) := by
  match t, hs with
  | .mk k n ks, hs =>
  simp only [Typ.sz] at hs
  exact copyType_step k n ks (by omega) fun x hx => copyType x (by have := Typ.sz_mem hx; omega)
termination_by t
decreasing_by all_goals (have := List.sizeOf_lt_of_mem hx; simp; omega)
theorem l02Own_step (k0 : Int) (nm : ByteArray) (ks : List Typ) (hl : ks.length ≤ 1048576) (hel : ∀ x ∈ ks, SpG Tryz.prog 60 [.ag x.ds] [] [] (.ag x.ds)) :
    SpG Tryz.prog 60 [.ag (Typ.ds (.mk k0 nm ks))] [] [] (.ag (Typ.ds (.mk k0 nm ks))) := by
  have hda : (Typ.dsL ks).length = ks.length := Typ.dsL_len ks
  refine SpG.of_vc [] [.cell 2 46] Tryz.func60 rfl (by kernel_rfl) Tryz.ntmps60 rfl (by simp) rfl ?_
  simp only [Typ.ds, hda, go_sem, ↓reduceIte, reduceCtorEq, reduceLT, reduceEqDiff, Nat.reduceBEq, reduceAdd, reduceMul, reduceSub, reduceLeDiff, reduceReplicate]
  refine loop_count 4 ks.length (fun k => Fw.InvT 29 [(1, .cp [I k0, S nm, .sl 3 (Typ.dsL ks)]), (2, .rf 2 0 0), (3, .rf 3 0 0)] fun H n T => ∃ x, (∃ c, H 2 = some ⟨0, 46, 3, c, none⟩ ∧ c.length = 3) ∧ H 3 = some ⟨0, 46, 3, [I k0, S nm, x], none⟩ ∧ App H 26 46 3 (Typ.dsL (ks.take k)) x T) rfl ⟨rfl, ?_, ?_⟩ ?_
  · simp [envOf, setE]
  · exact ⟨_, ⟨_, rfl, rfl⟩, rfl, .inl ⟨by simp [Typ.dsL_eq], rfl, rfl⟩⟩
  rintro k ⟨env, H, n, nt, T⟩ hk h5 ⟨rfl, hfs, x, ⟨c2, hH2, hc2⟩, hH3, hA⟩
  simp only [List.forall_mem_cons] at h5 hfs hH2 hH3 hA
  obtain ⟨e1, e2, e3, -⟩ := hfs
  simp only [h5, e1, e2, e3, hda, go_sem, ↓reduceIte, reduceCtorEq, reduceLT, reduceEqDiff, Nat.reduceBEq, reduceAdd, reduceMul, reduceSub, reduceLeDiff, reduceReplicate]
  refine condK_split (fun h => ?_) (fun h => ?_)
  · have hlt : k < ks.length := by simpa using h
    have hx := List.getElem_mem hlt
    have g0 := Typ.dsL_get ks k hlt
    have hd0 := Typ.ds_len ks[k]
    have ht0 : List.take 3 ks[k].ds = ks[k].ds := List.take_of_length_le (by omega)
    have ho0 : (ks[k].ds).all oneD = true := by rw [List.all_eq_true]; exact Typ.one ks[k]
    have hrow : Typ.dsL (ks.take (k + 1)) = Typ.dsL (ks.take k) ++ [ks[k].ds] := by simp only [Typ.dsL_eq]; rw [List.take_succ_eq_append_getElem hlt, List.map_append]; rfl
    have hlk : (Typ.dsL (ks.take k)).length = k := by rw [Typ.dsL_len, List.length_take]; omega
    simp only [h, h5, e1, e2, e3, g0, hd0, ht0, ho0, hH3, List.take_zero, List.nil_append, go_sem, ↓reduceIte, reduceCtorEq, reduceLT, reduceEqDiff, Nat.reduceBEq, reduceAdd, reduceMul, reduceSub, reduceLeDiff, reduceReplicate]
    rcases hA with ⟨hk0, rfl, rfl⟩ | ⟨hk0, gn, cs, rfl, hH, hcs⟩
    · refine drawM_intro (fun _ => (true, .ag ks[k].ds)) [] mixed (by kernel_rfl) ?_
      simp only [h, h5, e1, e2, e3, g0, hd0, ht0, ho0, hH3, List.take_zero, List.nil_append, go_sem, ↓reduceIte, reduceCtorEq, reduceLT, reduceEqDiff, Nat.reduceBEq, reduceAdd, reduceMul, reduceSub, reduceLeDiff, reduceReplicate]
      refine callM_new _ rfl (hel ks[k] hx) (by simp; exact Typ.cl _) (Typ.o3 _) ?_
      intro e T' hO
      obtain ⟨es, rfl, ho⟩ := o3_ag hO
      have hes : es.length = 3 := ho.len.trans hd0
      have hes1 : es.all oneD = true := by rw [List.all_eq_true]; exact ho.one (Typ.one ks[k])
      simp only [h5, e1, e2, e3, hH3, hes, hes1, go_sem, ↓reduceIte, reduceCtorEq, reduceLT, reduceEqDiff, Nat.reduceBEq, reduceAdd, reduceMul, reduceSub, reduceLeDiff, reduceReplicate]
      refine ⟨by simp [maxLen], ?_⟩
      refine nextC_mk (by simp [setE, wrap_succ k (by omega)]) hlt ⟨rfl, by simp [setE, e1, e2, e3], _, ⟨c2, ?_, hc2⟩, rfl, .inr ⟨?_, n 26, es, ?_, ?_, ?_⟩⟩
      · simp [upd, hH2]
      · rw [hrow]; simp
      · rw [hrow, hk0]; rfl
      · simp [upd]
      · rw [hrow, hk0]; simpa using ho
    · have hcl : cs.length = k * 3 := by rw [hcs.len, flatten_len (Typ.rows_len _), hlk]
      refine drawM_intro (fun _ => (true, .ag ks[k].ds)) [] mixed (by kernel_rfl) ?_
      simp only [h, h5, e1, e2, e3, g0, hd0, ht0, ho0, hH3, List.take_zero, List.nil_append, go_sem, ↓reduceIte, reduceCtorEq, reduceLT, reduceEqDiff, Nat.reduceBEq, reduceAdd, reduceMul, reduceSub, reduceLeDiff, reduceReplicate]
      refine callM_new _ rfl (hel ks[k] hx) (by simp; exact Typ.cl _) (Typ.o3 _) ?_
      intro e T' hO
      obtain ⟨es, rfl, ho⟩ := o3_ag hO
      have hes : es.length = 3 := ho.len.trans hd0
      have hes1 : es.all oneD = true := by rw [List.all_eq_true]; exact ho.one (Typ.one ks[k])
      simp only [h5, e1, e2, e3, hH3, hH, hcl, hlk, hes, hes1, go_sem, ↓reduceIte, reduceCtorEq, reduceLT, reduceEqDiff, Nat.reduceBEq, reduceAdd, reduceMul, reduceSub, reduceLeDiff, reduceReplicate]
      refine ⟨⟨by omega, by simp [maxLen]; omega⟩, ?_⟩
      refine nextC_mk (by simp [setE, wrap_succ k (by omega)]) hlt ⟨rfl, by simp [setE, e1, e2, e3], _, ⟨c2, ?_, hc2⟩, rfl, .inr ⟨?_, n 26, cs ++ es, ?_, ?_, ?_⟩⟩
      · simp [upd, hH2]
      · rw [hrow]; simp
      · rw [hrow]; simp [hlk]
      · simp [upd]
      · rw [hrow]; simpa using hcs.app ho
  · have hk' : k = ks.length := by simp at h; omega
    subst hk'
    rw [List.take_length] at hA
    obtain ⟨y0, y1, y2, rfl⟩ : ∃ a b c, c2 = [a, b, c] := by
      match c2, hc2 with
      | [a, b, c], _ => exact ⟨a, b, c, rfl⟩
    simp only [h, e2, e3, hH2, hH3, go_sem, ↓reduceIte, reduceCtorEq, reduceLT, reduceEqDiff, Nat.reduceBEq, reduceAdd, reduceMul, reduceSub, reduceLeDiff, reduceReplicate]
    refine ⟨hA.one, ?_⟩
    obtain ⟨us, u1, u2, u3⟩ := (hA.congr (H' := upd H 2 (some ⟨0, 46, 3, [I k0, S nm, x], none⟩)) (by simp [upd])).c1 (by decide) (Typ.rows_len ks)
    exact closeK_mix (.cons (.sc _) (.cons (.sc _) (.cons u1 .nil))) (by simpa using u2) (by simp; rcases u3 with e | e <;> rw [e] <;> simp)
theorem l02Own (t : Typ) (hs : t.sz ≤ 1048576) : SpG Tryz.prog 60 [.ag t.ds] [] [] (.ag t.ds) := by
  match t, hs with
  | .mk k n ks, hs =>
  simp only [Typ.sz] at hs
  exact l02Own_step k n ks (by omega) fun x hx => l02Own x (by have := Typ.sz_mem hx; omega)
termination_by t
decreasing_by all_goals (have := List.sizeOf_lt_of_mem hx; simp; omega)
end Go.Proofs.YtcidmkcicagpaaaGreat
