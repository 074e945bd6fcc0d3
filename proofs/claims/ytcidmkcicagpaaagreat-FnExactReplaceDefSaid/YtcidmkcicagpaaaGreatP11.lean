/-
  Contracts over data of copies of terms, of the program and of the reference. No condition.
-/
import Derived.Test.YtcidmkcicagpaaaGreatP3
import Derived.Test.YtcidmkcicagpaaaGreatFw10
set_option maxRecDepth 100000
set_option linter.unusedSimpArgs false
set_option linter.unusedVariables false
namespace Go.Proofs.YtcidmkcicagpaaaGreat
open Go.Fw
theorem strs_len (ns : List ByteArray) : ∀ r ∈ ns.map (fun s => [S s]), r.length = 1 := by
  intro r hr; obtain ⟨s, _, rfl⟩ := List.mem_map.1 hr; rfl
theorem strs_flat (ns : List ByteArray) : OL O1 (ns.map fun s => [S s]).flatten (ns.map fun s => [S s]).flatten [] :=
  ol_scs fun d hd => by
    obtain ⟨r, hr, hd⟩ := List.mem_flatten.1 hd
    obtain ⟨s, _, rfl⟩ := List.mem_map.1 hr
    simp at hd; exact ⟨_, hd⟩
theorem strs_o3 (ns : List ByteArray) : ∃ e T, O3 (.sl 1 (ns.map fun s => [S s])) e T := ⟨_, _, .one (.one (.sl 1 _ none 0 0 []))⟩
theorem cloneStr (ns : List ByteArray) (hl : ns.length ≤ 1048576) : SpG Tryz.prog 109 [.sl 1 (ns.map fun s => [S s])] [] [] (.sl 1 (ns.map fun s => [S s])) := by
  by_cases hz : ns = []
  · subst hz
    refine SpG.none ?_ fun a c => ?_
    · refine SpG.of_vc [] [.tmp 2] Tryz.func109 rfl (by kernel_rfl) Tryz.ntmps109 rfl (by simp) rfl ?_
      simp only [go_sem, ↓reduceIte, reduceCtorEq, Nat.reduceLT, Nat.reduceEqDiff, Nat.reduceBEq, Nat.reduceAdd, Nat.reduceMul, Nat.reduceSub, Nat.reduceLeDiff, List.reduceReplicate]
      exact closeK_nil rfl
    · refine SpG.of_vc [] [.tmp 2] Tryz.func109 rfl (by kernel_rfl) Tryz.ntmps109 rfl (by simp) rfl ?_
      simp only [go_sem, ↓reduceIte, reduceCtorEq, Nat.reduceLT, Nat.reduceEqDiff, Nat.reduceBEq, Nat.reduceAdd, Nat.reduceMul, Nat.reduceSub, Nat.reduceLeDiff, List.reduceReplicate]
      refine ⟨Nat.zero_le _, ?_⟩
      exact closeK_rows (ob := ⟨0, 9, 1, [], none⟩) (rows := []) rfl rfl rfl (by decide) rfl (by simp) .nil
  · obtain ⟨n0, nt, rfl⟩ : ∃ a b, ns = a :: b := List.exists_cons_of_ne_nil hz
    have hall : ((n0 :: nt).map fun s => [S s]).flatten.all oneD = true := by
      rw [List.all_eq_true]; intro d hd
      obtain ⟨r, hr, hd⟩ := List.mem_flatten.1 hd
      obtain ⟨s, _, rfl⟩ := List.mem_map.1 hr
      simp at hd; subst hd; rfl
    have hfl := strs_flat (n0 :: nt)
    have hrl := strs_len (n0 :: nt)
    have hln : ((n0 :: nt).map fun s => [S s]).length = nt.length + 1 := by simp
    simp only [List.length_cons] at hl
    simp only [List.map_cons] at hall hfl hrl hln ⊢
    refine SpG.of_vc [] [.tmp 2] Tryz.func109 rfl (by kernel_rfl) Tryz.ntmps109 rfl (by simp) rfl ?_
    simp only [hall, go_sem, ↓reduceIte, reduceCtorEq, Nat.reduceLT, Nat.reduceEqDiff, Nat.reduceBEq, Nat.reduceAdd, Nat.reduceMul, Nat.reduceSub, Nat.reduceLeDiff, List.reduceReplicate]
    refine ⟨by simp [maxLen]; omega, ?_⟩
    exact closeK_rows (ob := ⟨0, 9, 1, ([S n0] :: nt.map fun s => [S s]).flatten, none⟩) rfl rfl rfl (by decide) (by simp) hrl hfl
theorem typ_open {tk : Int} {tn : ByteArray} {tks : List Typ} {e : D} {T : List TE} (h : O3 (.ag [I tk, S tn, .sl 3 (Typ.dsL tks)]) e T) : ∃ a n c F, e = .ag [I tk, S tn, .sc (.slice a n c)] ∧ T = [⟨.slice a n c, .sl 3 (Typ.dsL tks), F⟩] := by
  obtain ⟨es, rfl, ho⟩ := o3_ag h
  rw [ol_sc] at ho
  obtain ⟨es1, rfl, ho⟩ := ho
  rw [ol_sc] at ho
  obtain ⟨es2, rfl, ho⟩ := ho
  rw [ol_sl] at ho
  obtain ⟨a, n, c, F, es3, T3, rfl, rfl, ho⟩ := ho
  rw [ol_nil] at ho
  obtain ⟨rfl, rfl⟩ := ho
  exact ⟨a, n, c, F, rfl, rfl⟩
theorem Term.o3 (x : Term) : ∃ e T, O3 (.ag x.ds) e T := by
  obtain ⟨k, v, n, ⟨tk, tn, tks⟩, ns, ks⟩ := x
  exact ⟨_, _, .one (.ag (by simp only [Term.ds, Typ.ds, strs, List.cons_append, List.nil_append]; repeat first | exact OL.nil | apply OL.sc' | apply OL.tr0))⟩
theorem copyTerm_step (k0 v : Int) (nm : ByteArray) (tk : Int) (tn : ByteArray) (tks : List Typ) (ns : List ByteArray) (ks : List Term) (hts : (Typ.mk tk tn tks).sz ≤ 1048576) (hns : ns.length ≤ 1048576) (hl : ks.length ≤ 1048576)
    (hel : ∀ x ∈ ks, SpG Tryz.prog 73 [.ag x.ds] [] [] (.ag x.ds)) :
    SpG Tryz.prog 73 [.ag (Term.ds (.mk k0 v nm (.mk tk tn tks) ns ks))] [] [] (.ag (Term.ds (.mk k0 v nm (.mk tk tn tks) ns ks))) := by
  have hda : (Term.dsL ks).length = ks.length := Term.dsL_len ks
  have hct := copyType (.mk tk tn tks) hts
  have hcl := Typ.cl (.mk tk tn tks)
  have ho3 := Typ.o3 (.mk tk tn tks)
  simp only [Typ.ds] at hct hcl ho3
  refine SpG.of_vc [] [.cell 2 49] Tryz.func73 rfl (by kernel_rfl) Tryz.ntmps73 rfl (by simp) rfl ?_
  simp only [Term.ds, Typ.ds, strs, hda, go_sem, ↓reduceIte, reduceCtorEq, Nat.reduceLT, Nat.reduceEqDiff, Nat.reduceBEq, Nat.reduceAdd, Nat.reduceMul, Nat.reduceSub, Nat.reduceLeDiff, List.reduceReplicate]
  refine drawM_intro (fun t => if t = 14 then (true, .ag [I tk, S tn, .sl 3 (Typ.dsL tks)]) else (true, .sl 1 (ns.map fun s => [S s]))) [] mixed (by kernel_rfl) ?_
  simp only [Term.ds, Typ.ds, strs, hda, go_sem, ↓reduceIte, reduceCtorEq, Nat.reduceLT, Nat.reduceEqDiff, Nat.reduceBEq, Nat.reduceAdd, Nat.reduceMul, Nat.reduceSub, Nat.reduceLeDiff, List.reduceReplicate]
  refine callM_new _ rfl hct (by simpa using hcl) ho3 ?_
  intro e T1 hO1
  obtain ⟨a1, n1, c1, F1, rfl, rfl⟩ := typ_open hO1
  simp only [Term.ds, Typ.ds, strs, hda, go_sem, ↓reduceIte, reduceCtorEq, Nat.reduceLT, Nat.reduceEqDiff, Nat.reduceBEq, Nat.reduceAdd, Nat.reduceMul, Nat.reduceSub, Nat.reduceLeDiff, List.reduceReplicate]
  refine callM_new _ rfl (cloneStr ns hns) (by simp) (strs_o3 ns) ?_
  intro e T2 hO2
  obtain ⟨a2, n2, c2, F2, rfl, rfl⟩ := o3_sl hO2
  simp only [Term.ds, Typ.ds, strs, hda, go_sem, ↓reduceIte, reduceCtorEq, Nat.reduceLT, Nat.reduceEqDiff, Nat.reduceBEq, Nat.reduceAdd, Nat.reduceMul, Nat.reduceSub, Nat.reduceLeDiff, List.reduceReplicate]
  refine loop_count 22 ks.length (fun k => Fw.InvT 35 [(20, .sl 8 (Term.dsL ks)), (21, I ks.length), (2, .rf 2 0 0), (3, .rf 3 0 0)] fun H n T => ∃ x T', T = ⟨.slice a1 n1 c1, .sl 3 (Typ.dsL tks), F1⟩ :: ⟨.slice a2 n2 c2, .sl 1 (ns.map fun s => [S s]), F2⟩ :: T' ∧ (∃ c, H 2 = some ⟨0, 49, 8, c, none⟩ ∧ c.length = 8) ∧ H 3 = some ⟨0, 49, 8, [I k0, I v, S nm, I tk, S tn, .sc (.slice a1 n1 c1), .sc (.slice a2 n2 c2), x], none⟩ ∧ App H 31 49 8 (Term.dsL (ks.take k)) x T') rfl ⟨rfl, ?_, ?_⟩ ?_
  · simp [envOf, setE]
  · exact ⟨_, _, rfl, ⟨_, rfl, rfl⟩, rfl, .inl ⟨by simp [Term.dsL_eq], rfl, rfl⟩⟩
  rintro k ⟨env, H, n, nt, T⟩ hk h5 ⟨rfl, hfs, x, T', hT, ⟨c2', hH2, hc2⟩, hH3, hA⟩
  simp only [List.forall_mem_cons] at h5 hfs hT hH2 hH3 hA
  subst hT
  obtain ⟨e0, e1, e2, e3, -⟩ := hfs
  simp only [h5, e0, e1, e2, e3, hda, go_sem, ↓reduceIte, reduceCtorEq, Nat.reduceLT, Nat.reduceEqDiff, Nat.reduceBEq, Nat.reduceAdd, Nat.reduceMul, Nat.reduceSub, Nat.reduceLeDiff, List.reduceReplicate]
  refine condK_split (fun h => ?_) (fun h => ?_)
  · have hlt : k < ks.length := by simpa using h
    have hx := List.getElem_mem hlt
    have g0 := Term.dsL_get ks k hlt
    have hd0 := Term.ds_len ks[k]
    have ht0 : List.take 8 ks[k].ds = ks[k].ds := List.take_of_length_le (by omega)
    have ho0 : (ks[k].ds).all oneD = true := by rw [List.all_eq_true]; exact Term.one ks[k]
    have hrow : Term.dsL (ks.take (k + 1)) = Term.dsL (ks.take k) ++ [ks[k].ds] := by simp only [Term.dsL_eq]; rw [List.take_succ_eq_append_getElem hlt, List.map_append]; rfl
    have hlk : (Term.dsL (ks.take k)).length = k := by rw [Term.dsL_len, List.length_take]; omega
    simp only [h, h5, e0, e1, e2, e3, g0, hd0, ht0, ho0, hH3, List.take_zero, List.nil_append, go_sem, ↓reduceIte, reduceCtorEq, Nat.reduceLT, Nat.reduceEqDiff, Nat.reduceBEq, Nat.reduceAdd, Nat.reduceMul, Nat.reduceSub, Nat.reduceLeDiff, List.reduceReplicate]
    rcases hA with ⟨hk0, rfl, rfl⟩ | ⟨hk0, gn, cs, rfl, hH, hcs⟩
    · refine drawM_intro (fun _ => (true, .ag ks[k].ds)) [] mixed (by kernel_rfl) ?_
      simp only [h, h5, e0, e1, e2, e3, g0, hd0, ht0, ho0, hH3, List.take_zero, List.nil_append, go_sem, ↓reduceIte, reduceCtorEq, Nat.reduceLT, Nat.reduceEqDiff, Nat.reduceBEq, Nat.reduceAdd, Nat.reduceMul, Nat.reduceSub, Nat.reduceLeDiff, List.reduceReplicate]
      refine callM_new _ rfl (hel ks[k] hx) (by simp; exact Term.cl _) (Term.o3 _) ?_
      intro e T'' hO
      obtain ⟨es, rfl, ho⟩ := o3_ag hO
      have hes : es.length = 8 := ho.len.trans hd0
      have hes1 : es.all oneD = true := by rw [List.all_eq_true]; exact ho.one (Term.one ks[k])
      simp only [h5, e0, e1, e2, e3, hH3, hes, hes1, go_sem, ↓reduceIte, reduceCtorEq, Nat.reduceLT, Nat.reduceEqDiff, Nat.reduceBEq, Nat.reduceAdd, Nat.reduceMul, Nat.reduceSub, Nat.reduceLeDiff, List.reduceReplicate]
      refine ⟨by simp [maxLen], ?_⟩
      refine nextC_mk (by simp [setE, wrap_succ k (by omega)]) hlt ⟨rfl, by simp [setE, e0, e1, e2, e3], _, T'', by simp, ⟨c2', ?_, hc2⟩, rfl, .inr ⟨?_, n 31, es, ?_, ?_, ?_⟩⟩
      · simp [upd, hH2]
      · rw [hrow]; simp
      · rw [hrow, hk0]; rfl
      · simp [upd]
      · rw [hrow, hk0]; simpa using ho
    · have hcl : cs.length = k * 8 := by rw [hcs.len, flatten_len (Term.rows_len _), hlk]
      refine drawM_intro (fun _ => (true, .ag ks[k].ds)) [] mixed (by kernel_rfl) ?_
      simp only [h, h5, e0, e1, e2, e3, g0, hd0, ht0, ho0, hH3, List.take_zero, List.nil_append, go_sem, ↓reduceIte, reduceCtorEq, Nat.reduceLT, Nat.reduceEqDiff, Nat.reduceBEq, Nat.reduceAdd, Nat.reduceMul, Nat.reduceSub, Nat.reduceLeDiff, List.reduceReplicate]
      refine callM_new _ rfl (hel ks[k] hx) (by simp; exact Term.cl _) (Term.o3 _) ?_
      intro e T'' hO
      obtain ⟨es, rfl, ho⟩ := o3_ag hO
      have hes : es.length = 8 := ho.len.trans hd0
      have hes1 : es.all oneD = true := by rw [List.all_eq_true]; exact ho.one (Term.one ks[k])
      simp only [h5, e0, e1, e2, e3, hH3, hH, hcl, hlk, hes, hes1, go_sem, ↓reduceIte, reduceCtorEq, Nat.reduceLT, Nat.reduceEqDiff, Nat.reduceBEq, Nat.reduceAdd, Nat.reduceMul, Nat.reduceSub, Nat.reduceLeDiff, List.reduceReplicate]
      refine ⟨⟨by omega, by simp [maxLen]; omega⟩, ?_⟩
      refine nextC_mk (by simp [setE, wrap_succ k (by omega)]) hlt ⟨rfl, by simp [setE, e0, e1, e2, e3], _, T' ++ T'', by simp, ⟨c2', ?_, hc2⟩, rfl, .inr ⟨?_, n 31, cs ++ es, ?_, ?_, ?_⟩⟩
      · simp [upd, hH2]
      · rw [hrow]; simp
      · rw [hrow]; simp [hlk]
      · simp [upd]
      · rw [hrow]; simpa using hcs.app ho
  · have hk' : k = ks.length := by simp at h; omega
    subst hk'
    rw [List.take_length] at hA
    obtain ⟨y0, y1, y2, y3, y4, y5, y6, y7, rfl⟩ : ∃ a b c d e f g h, c2' = [a, b, c, d, e, f, g, h] := by
      match c2', hc2 with
      | [a, b, c, d, e, f, g, h], _ => exact ⟨a, b, c, d, e, f, g, h, rfl⟩
    simp only [h, e2, e3, hH2, hH3, go_sem, ↓reduceIte, reduceCtorEq, Nat.reduceLT, Nat.reduceEqDiff, Nat.reduceBEq, Nat.reduceAdd, Nat.reduceMul, Nat.reduceSub, Nat.reduceLeDiff, List.reduceReplicate]
    refine ⟨hA.one, ?_⟩
    obtain ⟨us, u1, u2, u3⟩ := (hA.congr (H' := upd H 2 (some ⟨0, 49, 8, [I k0, I v, S nm, I tk, S tn, .sc (.slice a1 n1 c1), .sc (.slice a2 n2 c2), x], none⟩)) (by simp [upd])).c1 (by decide) (Term.rows_len ks)
    exact closeK_mix (.cons (.sc _) (.cons (.sc _) (.cons (.sc _) (.cons (.sc _) (.cons (.sc _) (.cons (.tr ⟨.slice a1 n1 c1, .sl 3 (Typ.dsL tks), F1⟩) (.cons (.tr ⟨.slice a2 n2 c2, .sl 1 (ns.map fun s => [S s]), F2⟩) (.cons u1 .nil)))))))) (by simpa [inls] using u2) (by simp [inrs]; rcases u3 with e | e <;> rw [e] <;> simp)
theorem copyTerm (t : Term) (hs : t.sz ≤ 1048576) : SpG Tryz.prog 73 [.ag t.ds] [] [] (.ag t.ds) := by
  match t, hs with
  | .mk k v n (.mk tk tn tks) ns ks, hs =>
  simp only [Term.sz] at hs
  exact copyTerm_step k v n tk tn tks ns ks (by omega) (by omega) (by omega) fun x hx => copyTerm x (by have := Term.sz_mem hx; omega)
termination_by t
decreasing_by all_goals (have := List.sizeOf_lt_of_mem hx; simp; omega)
theorem l36Term_step (k0 v : Int) (nm : ByteArray) (tk : Int) (tn : ByteArray) (tks : List Typ) (ns : List ByteArray) (ks : List Term) (hts : (Typ.mk tk tn tks).sz ≤ 1048576) (hns : ns.length ≤ 1048576) (hl : ks.length ≤ 1048576)
    (hel : ∀ x ∈ ks, SpG Tryz.prog 61 [.cp x.ds] [] [] (.ag x.ds)) :
    SpG Tryz.prog 61 [.cp (Term.ds (.mk k0 v nm (.mk tk tn tks) ns ks))] [] [] (.ag (Term.ds (.mk k0 v nm (.mk tk tn tks) ns ks))) := by
  have hda : (Term.dsL ks).length = ks.length := Term.dsL_len ks
  have hct := l02Own (.mk tk tn tks) hts
  have hcl := Typ.cl (.mk tk tn tks)
  have ho3 := Typ.o3 (.mk tk tn tks)
  have hall : ((ns.map fun s => [S s]).flatten).all oneD = true := by
    rw [List.all_eq_true]; intro d hd
    obtain ⟨r, hr, hd⟩ := List.mem_flatten.1 hd
    obtain ⟨s, _, rfl⟩ := List.mem_map.1 hr
    simp at hd; subst hd; rfl
  simp only [Typ.ds] at hct hcl ho3
  refine SpG.of_vc [] [.cell 2 49] Tryz.func61 rfl (by kernel_rfl) Tryz.ntmps61 rfl (by simp) rfl ?_
  simp only [Term.ds, Typ.ds, strs, hda, go_sem, ↓reduceIte, reduceCtorEq, Nat.reduceLT, Nat.reduceEqDiff, Nat.reduceBEq, Nat.reduceAdd, Nat.reduceMul, Nat.reduceSub, Nat.reduceLeDiff, List.reduceReplicate]
  refine drawM_intro (fun _ => (true, .ag [I tk, S tn, .sl 3 (Typ.dsL tks)])) [8, 12, 16, 20] mixed (by kernel_rfl) ?_
  simp only [Term.ds, Typ.ds, strs, hda, go_sem, ↓reduceIte, reduceCtorEq, Nat.reduceLT, Nat.reduceEqDiff, Nat.reduceBEq, Nat.reduceAdd, Nat.reduceMul, Nat.reduceSub, Nat.reduceLeDiff, List.reduceReplicate]
  refine callM_new _ rfl hct (by simpa using hcl) ho3 ?_
  intro e T1 hO1
  obtain ⟨a1, n1, c1, F1, rfl, rfl⟩ := typ_open hO1
  simp only [Term.ds, Typ.ds, strs, hda, hall, go_sem, ↓reduceIte, reduceCtorEq, Nat.reduceLT, Nat.reduceEqDiff, Nat.reduceBEq, Nat.reduceAdd, Nat.reduceMul, Nat.reduceSub, Nat.reduceLeDiff, List.reduceReplicate]
  refine ⟨by simp [maxLen]; omega, ?_⟩
  refine loop_count 4 ks.length (fun k => Fw.InvT 51 [(0, .cp [I k0, I v, S nm, I tk, S tn, .sl 3 (Typ.dsL tks), .sl 1 (ns.map fun s => [S s]), .sl 8 (Term.dsL ks)]), (2, .rf 2 0 0), (3, .rf 3 0 0)] fun H n T => ∃ x T', T = ⟨.slice a1 n1 c1, .sl 3 (Typ.dsL tks), F1⟩ :: T' ∧ (∃ c, H 2 = some ⟨0, 49, 8, c, none⟩ ∧ c.length = 8) ∧ H 3 = some ⟨0, 49, 8, [I k0, I v, S nm, I tk, S tn, .sc (.slice a1 n1 c1), .ms 27 0 ns.length, x], none⟩ ∧ H 27 = some ⟨0, 9, 1, (ns.map fun s => [S s]).flatten, none⟩ ∧ App H 48 49 8 (Term.dsL (ks.take k)) x T') rfl ⟨rfl, ?_, ?_⟩ ?_
  · simp [envOf, setE]
  · exact ⟨_, _, rfl, ⟨_, rfl, rfl⟩, rfl, rfl, .inl ⟨by simp [Term.dsL_eq], rfl, rfl⟩⟩
  rintro k ⟨env, H, n, nt, T⟩ hk h5 ⟨rfl, hfs, x, T', hT, ⟨c2', hH2, hc2⟩, hH3, hH27, hA⟩
  simp only [List.forall_mem_cons] at h5 hfs hT hH2 hH3 hH27 hA
  subst hT
  obtain ⟨e0, e2, e3, -⟩ := hfs
  simp only [h5, e0, e2, e3, hda, go_sem, ↓reduceIte, reduceCtorEq, Nat.reduceLT, Nat.reduceEqDiff, Nat.reduceBEq, Nat.reduceAdd, Nat.reduceMul, Nat.reduceSub, Nat.reduceLeDiff, List.reduceReplicate]
  refine condK_split (fun h => ?_) (fun h => ?_)
  · have hlt : k < ks.length := by simpa using h
    have hx := List.getElem_mem hlt
    have g0 := Term.dsL_get ks k hlt
    have hd0 := Term.ds_len ks[k]
    have ht0 : List.take 8 ks[k].ds = ks[k].ds := List.take_of_length_le (by omega)
    have ho0 : (ks[k].ds).all oneD = true := by rw [List.all_eq_true]; exact Term.one ks[k]
    have hrow : Term.dsL (ks.take (k + 1)) = Term.dsL (ks.take k) ++ [ks[k].ds] := by simp only [Term.dsL_eq]; rw [List.take_succ_eq_append_getElem hlt, List.map_append]; rfl
    have hlk : (Term.dsL (ks.take k)).length = k := by rw [Term.dsL_len, List.length_take]; omega
    simp only [h, h5, e0, e2, e3, g0, hd0, ht0, ho0, hH3, List.take_zero, List.nil_append, go_sem, ↓reduceIte, reduceCtorEq, Nat.reduceLT, Nat.reduceEqDiff, Nat.reduceBEq, Nat.reduceAdd, Nat.reduceMul, Nat.reduceSub, Nat.reduceLeDiff, List.reduceReplicate]
    rcases hA with ⟨hk0, rfl, rfl⟩ | ⟨hk0, gn, cs, rfl, hH, hcs⟩
    · refine drawM_intro (fun _ => (true, .ag ks[k].ds)) [] mixed (by kernel_rfl) ?_
      simp only [h, h5, e0, e2, e3, g0, hd0, ht0, ho0, hH3, List.take_zero, List.nil_append, go_sem, ↓reduceIte, reduceCtorEq, Nat.reduceLT, Nat.reduceEqDiff, Nat.reduceBEq, Nat.reduceAdd, Nat.reduceMul, Nat.reduceSub, Nat.reduceLeDiff, List.reduceReplicate]
      refine callM_new _ rfl (hel ks[k] hx) (by simp; exact Term.cl _) (Term.o3 _) ?_
      intro e T'' hO
      obtain ⟨es, rfl, ho⟩ := o3_ag hO
      have hes : es.length = 8 := ho.len.trans hd0
      have hes1 : es.all oneD = true := by rw [List.all_eq_true]; exact ho.one (Term.one ks[k])
      simp only [h5, e0, e2, e3, hH3, hes, hes1, go_sem, ↓reduceIte, reduceCtorEq, Nat.reduceLT, Nat.reduceEqDiff, Nat.reduceBEq, Nat.reduceAdd, Nat.reduceMul, Nat.reduceSub, Nat.reduceLeDiff, List.reduceReplicate]
      refine ⟨by simp [maxLen], ?_⟩
      refine nextC_mk (by simp [setE, wrap_succ k (by omega)]) hlt ⟨rfl, by simp [setE, e0, e2, e3], _, T'', by simp, ⟨c2', ?_, hc2⟩, rfl, ?_, .inr ⟨?_, n 48, es, ?_, ?_, ?_⟩⟩
      · simp [upd, hH2]
      · simp [upd, hH27]
      · rw [hrow]; simp
      · rw [hrow, hk0]; rfl
      · simp [upd]
      · rw [hrow, hk0]; simpa using ho
    · have hcl : cs.length = k * 8 := by rw [hcs.len, flatten_len (Term.rows_len _), hlk]
      refine drawM_intro (fun _ => (true, .ag ks[k].ds)) [] mixed (by kernel_rfl) ?_
      simp only [h, h5, e0, e2, e3, g0, hd0, ht0, ho0, hH3, List.take_zero, List.nil_append, go_sem, ↓reduceIte, reduceCtorEq, Nat.reduceLT, Nat.reduceEqDiff, Nat.reduceBEq, Nat.reduceAdd, Nat.reduceMul, Nat.reduceSub, Nat.reduceLeDiff, List.reduceReplicate]
      refine callM_new _ rfl (hel ks[k] hx) (by simp; exact Term.cl _) (Term.o3 _) ?_
      intro e T'' hO
      obtain ⟨es, rfl, ho⟩ := o3_ag hO
      have hes : es.length = 8 := ho.len.trans hd0
      have hes1 : es.all oneD = true := by rw [List.all_eq_true]; exact ho.one (Term.one ks[k])
      simp only [h5, e0, e2, e3, hH3, hH, hcl, hlk, hes, hes1, go_sem, ↓reduceIte, reduceCtorEq, Nat.reduceLT, Nat.reduceEqDiff, Nat.reduceBEq, Nat.reduceAdd, Nat.reduceMul, Nat.reduceSub, Nat.reduceLeDiff, List.reduceReplicate]
      refine ⟨⟨by omega, by simp [maxLen]; omega⟩, ?_⟩
      refine nextC_mk (by simp [setE, wrap_succ k (by omega)]) hlt ⟨rfl, by simp [setE, e0, e2, e3], _, T' ++ T'', by simp, ⟨c2', ?_, hc2⟩, rfl, ?_, .inr ⟨?_, n 48, cs ++ es, ?_, ?_, ?_⟩⟩
      · simp [upd, hH2]
      · simp [upd, hH27]
      · rw [hrow]; simp
      · rw [hrow]; simp [hlk]
      · simp [upd]
      · rw [hrow]; simpa using hcs.app ho
  · have hk' : k = ks.length := by simp at h; omega
    subst hk'
    rw [List.take_length] at hA
    obtain ⟨y0, y1, y2, y3, y4, y5, y6, y7, rfl⟩ : ∃ a b c d e f g h, c2' = [a, b, c, d, e, f, g, h] := by
      match c2', hc2 with
      | [a, b, c, d, e, f, g, h], _ => exact ⟨a, b, c, d, e, f, g, h, rfl⟩
    simp only [h, e2, e3, hH2, hH3, go_sem, ↓reduceIte, reduceCtorEq, Nat.reduceLT, Nat.reduceEqDiff, Nat.reduceBEq, Nat.reduceAdd, Nat.reduceMul, Nat.reduceSub, Nat.reduceLeDiff, List.reduceReplicate]
    refine ⟨hA.one, ?_⟩
    obtain ⟨us, u1, u2, u3⟩ := (hA.congr (H' := upd H 2 (some ⟨0, 49, 8, [I k0, I v, S nm, I tk, S tn, .sc (.slice a1 n1 c1), .ms 27 0 ns.length, x], none⟩)) (by simp [upd])).c1 (by decide) (Term.rows_len ks)
    have hc7 : C1 (upd H 2 (some ⟨0, 49, 8, [I k0, I v, S nm, I tk, S tn, .sc (.slice a1 n1 c1), .ms 27 0 ns.length, x], none⟩)) (.ms 27 0 ns.length) (.sl 1 (ns.map fun s => [S s])) (.inr 27 :: ([] : List TE).map .inl) :=
      C1.rows (ob := ⟨0, 9, 1, (ns.map fun s => [S s]).flatten, none⟩) (by simp [upd, hH27]) rfl rfl (by decide) (by simp) (strs_len ns) (strs_flat ns)
    exact closeK_mix (.cons (.sc _) (.cons (.sc _) (.cons (.sc _) (.cons (.sc _) (.cons (.sc _) (.cons (.tr ⟨.slice a1 n1 c1, .sl 3 (Typ.dsL tks), F1⟩) (.cons hc7 (.cons u1 .nil)))))))) (by simpa [inls] using u2) (by simp [inrs]; rcases u3 with e | e <;> rw [e] <;> simp)
theorem l36Term (t : Term) (hs : t.sz ≤ 1048576) : SpG Tryz.prog 61 [.cp t.ds] [] [] (.ag t.ds) := by
  match t, hs with
  | .mk k v n (.mk tk tn tks) ns ks, hs =>
  simp only [Term.sz] at hs
  exact l36Term_step k v n tk tn tks ns ks (by omega) (by omega) (by omega) fun x hx => l36Term x (by have := Term.sz_mem hx; omega)
termination_by t
decreasing_by all_goals (have := List.sizeOf_lt_of_mem hx; simp; omega)
end Go.Proofs.YtcidmkcicagpaaaGreat
