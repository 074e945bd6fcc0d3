/-
  Rows within rows: an object that is built closes to a tree while another one that names it is still being built. No condition.
-/
import Derived.Test.YtcidmkcicagpaaaGreatFw9
namespace Go.Fw

/-- An object named by a cell of another turns to a tree. -/
theorem GK.close {K : St → Prop} {s : St} {t1 gn e1 z1 : Nat} {pre post : List D} {x : D} {sz : Nat} {rows : List (List D)} {us : Us} {rest : List TE}
    (h1 : s.H t1 = some ⟨gn, e1, z1, pre ++ x :: post, none⟩) (hc : C1 s.H x (.sl sz rows) us) (ht1 : t1 ∉ inrs us) (hp : s.T.Perm (inls us ++ rest)) (hn : (inrs us).Nodup)
    (hK : ∀ a n c F, K { s with H := fun t => if t = t1 then some ⟨gn, e1, z1, pre ++ .sc (.slice a n c) :: post, none⟩ else if t ∈ inrs us then none else s.H t, T := ⟨.slice a n c, .sl sz rows, F⟩ :: rest }) : GK K s := by
  intro w0 M g a w hr
  have hin : ∀ te ∈ inls us, te ∈ s.T := fun te k => hp.mem_iff.2 (List.mem_append_left _ k)
  obtain ⟨q0, b, c, vs, hgt, hheap, hvs, hcm, hlen, hcells⟩ := hr.obj t1 _ h1
  obtain ⟨u, hu, hR⟩ := hcells pre.length x (by simp)
  have hT := hc.sound hr hin hR
  obtain ⟨a', n', c', rfl⟩ : ∃ a n c, u = .slice a n c := by
    have key : ∀ d F, T1 w d u F → d = .sl sz rows → ∃ a n c, u = .slice a n c := fun d F h e => by
      cases h <;> cases e <;> exact ⟨_, _, _, rfl⟩
    exact key _ _ hT rfl
  have hnd0 : (bl (inls us ++ rest)).Nodup := (hp.flatMap_right _).nodup hr.nd
  rw [bl_app, List.nodup_append] at hnd0
  let g' : Nat → Option (Nat × Nat × Nat) := fun t => if t ∈ inrs us then none else g t
  have hg' : ∀ {t y}, g' t = some y → t ∉ inrs us ∧ g t = some y := fun {t y} k => by
    simp only [g'] at k
    split at k
    · cases k
    · rename_i h; exact ⟨h, k⟩
  have hmb := mem_blk hr us hin
  have hx : (view w M g s.n).Ext (view w (fun b => M b ∨ b ∈ us.flatMap (blk g)) g' s.n) := by
    refine ⟨fun b o u k => ?_, fun _ => Nat.le_refl _, fun _ _ _ _ _ k => (hg' k).2⟩
    obtain ⟨k1, k2⟩ := view_free k
    refine view_mk (view_cell k) ?_ fun t x c q => k2 _ _ _ (hg' q).2
    rintro (q | q)
    · exact k1 q
    · rcases hmb b q with ⟨q, _⟩ | ⟨t, x, c, _, q⟩
      · exact k1 q
      · exact k2 _ _ _ q
  refine ⟨_, g', fun b => M b ∨ b ∈ us.flatMap (blk g), hK a' n' c' (us.flatMap (blk g)), hr.defers, hr.size, fun i => (hr.env i).mono hx, fun t ob ht => ?_, fun t x b c k => hr.base _ _ _ _ (hg' k).2,
    fun t t' x b c x' c' k k' => hr.inj _ _ _ _ _ _ _ (hg' k).2 (hg' k').2, hr.below, fun b k => ?_, fun b => ?_, hr.zm, fun e he => ?_, ?_, fun x k => ⟨(hr.og x k).1, fun b c q => (hr.og x k).2 _ _ (hg' q).2⟩⟩
  · simp only at ht
    split at ht
    · rename_i e; subst e
      cases ht
      refine ⟨q0, b, c, vs, ?_, hheap, hvs, hcm, by simpa using hlen, fun j d hd => ?_⟩
      · show g' t = _
        simp only [g', if_neg ht1]; exact hgt
      · by_cases hj : j = pre.length
        · subst hj
          simp at hd; subst hd
          exact ⟨_, hu, .sc _⟩
        · have hd' : (pre ++ x :: post)[j]? = some d := by
            rcases Nat.lt_or_ge j pre.length with h | h
            · rw [List.getElem?_append_left h] at hd ⊢; exact hd
            · obtain ⟨m, rfl⟩ : ∃ m, j = pre.length + (m + 1) := ⟨j - pre.length - 1, by omega⟩
              rw [List.getElem?_append_right (by omega)] at hd ⊢
              have e : pre.length + (m + 1) - pre.length = m + 1 := by omega
              rw [e] at hd ⊢
              simpa using hd
          obtain ⟨u', k1, k2⟩ := hcells j d hd'
          exact ⟨u', k1, k2.mono hx⟩
    · split at ht
      · cases ht
      · rename_i hni
        refine (hr.obj t ob ht).mono hx fun x b c k => ⟨?_, rfl⟩
        show g' t = _
        simp only [g', if_neg hni]; exact k
  · rcases k with k | k
    · exact ⟨(hr.m0 b k).1, fun t x c q => (hr.m0 b k).2 _ _ _ (hg' q).2⟩
    · rcases hmb b k with ⟨k, _⟩ | ⟨t, x, c, hti, k⟩
      · exact ⟨(hr.m0 b k).1, fun t x c q => (hr.m0 b k).2 _ _ _ (hg' q).2⟩
      · refine ⟨(hr.base _ _ _ _ k).2, fun t' x' c' q => ?_⟩
        have := hr.inj _ _ _ _ _ _ _ k (hg' q).2
        subst this
        exact (hg' q).1 hti
  · show _ ↔ _ ∨ ∃ e ∈ (_ :: rest), b ∈ e.F
    constructor
    · rintro (k | k)
      · rcases (hr.mm b).1 k with k | ⟨e, he, hb⟩
        · exact .inl k
        · rcases List.mem_append.1 (hp.mem_iff.1 he) with he | he
          · exact .inr ⟨_, List.mem_cons_self, List.mem_flatMap.2 ⟨_, mem_inls.2 he, hb⟩⟩
          · exact .inr ⟨e, List.mem_cons_of_mem _ he, hb⟩
      · exact .inr ⟨_, List.mem_cons_self, k⟩
    · rintro (k | ⟨e, he, hb⟩)
      · exact .inl ((hr.mm b).2 (.inl k))
      · rcases List.mem_cons.1 he with rfl | he
        · exact .inr hb
        · exact .inl ((hr.mm b).2 (.inr ⟨e, hp.mem_iff.2 (List.mem_append_right _ he), hb⟩))
  · rcases List.mem_cons.1 he with rfl | he
    · refine ⟨hT, fun b hb => ?_⟩
      rcases hmb b hb with ⟨_, te, k1, k2⟩ | ⟨t, x, c, _, k⟩
      · exact (hr.tree te (hin te k1)).2 b k2
      · exact (hr.base _ _ _ _ k).1
    · exact hr.tree e (hp.mem_iff.2 (List.mem_append_right _ he))
  · show (us.flatMap (blk g) ++ bl rest).Nodup
    rw [List.nodup_append]
    refine ⟨nodup_blk hr us hin hnd0.1 hn, hnd0.2.1, fun x hx y hy e => ?_⟩
    subst e
    rcases hmb x hx with ⟨_, te, k1, k2⟩ | ⟨t, y, c, _, k⟩
    · exact hnd0.2.2 x (mem_bl.2 ⟨te, k1, k2⟩) x hy rfl
    · obtain ⟨e, he, hb⟩ := mem_bl.1 hy
      exact (hr.m0 x ((hr.mm x).2 (.inr ⟨e, hp.mem_iff.2 (List.mem_append_right _ he), hb⟩))).2 _ _ _ k
/-- Rows that grew by append, named by a cell of another object, turn to a tree. -/
theorem GK.app {K : St → Prop} {s : St} {slot e sz t1 gn e1 z1 : Nat} {rows : List (List D)} {pre post : List D} {x : D} {T0 rest : List TE} (hA : App s.H slot e sz rows x T0) (h0 : 0 < sz) (hl : ∀ r ∈ rows, r.length = sz)
    (h1 : s.H t1 = some ⟨gn, e1, z1, pre ++ x :: post, none⟩) (ht : t1 ≠ slot) (hp : s.T.Perm (T0 ++ rest))
    (hK : ∀ H' a n c F, H' t1 = some ⟨gn, e1, z1, pre ++ .sc (.slice a n c) :: post, none⟩ → (∀ t, t ≠ slot → t ≠ t1 → H' t = s.H t) → K { s with H := H', T := ⟨.slice a n c, .sl sz rows, F⟩ :: rest }) : GK K s := by
  obtain ⟨us, u1, u2, u3⟩ := hA.c1 h0 hl
  refine GK.close h1 u1 ?_ (by rw [u2]; exact hp) ?_ fun a n c F => hK _ a n c F (by simp) fun t k1 k2 => ?_
  · rcases u3 with e | e <;> rw [e] <;> simp [ht]
  · rcases u3 with e | e <;> rw [e] <;> simp
  · simp only [k2, if_false]
    rw [if_neg]
    rcases u3 with e | e <;> rw [e] <;> simp [k1]

/-- What holds at a loop's head, slots that vary among it. -/
def InvE (nt : Nat) (fs : List (Nat × D)) (p : (Nat → D) → (Nat → Option Ob) → (Nat → Nat) → List TE → Prop) (s : St) : Prop := s.nt = nt ∧ (∀ x ∈ fs, s.env x.1 = x.2) ∧ p s.env s.H s.n s.T
theorem App.cells {H : Nat → Option Ob} {slot e sz : Nat} {rows : List (List D)} {x : D} {T : List TE} (h : App H slot e sz rows x T) : cellsD x = some [x] := by
  rcases h with ⟨_, rfl, _⟩ | ⟨_, gn, cs, rfl, _⟩ <;> rfl
theorem App.form {H : Nat → Option Ob} {slot e sz : Nat} {rows : List (List D)} {x : D} {T : List TE} (h : App H slot e sz rows x T) : x = .sc (.slice none 0 0) ∨ ∃ gn m, x = .ms slot gn m := by
  rcases h with ⟨_, rfl, _⟩ | ⟨_, gn, cs, rfl, _⟩
  · exact .inl rfl
  · exact .inr ⟨_, _, rfl⟩
theorem closeK_perm {s : St} {ds es : List D} {us : Us} (h : CL (C1 s.H) es ds us) (hi : s.T.Perm (inls us)) (hr : (inrs us).Nodup) : closeK [] [] (.ag ds) s (.ag es) :=
  ⟨us, [], .one (.ag h), by simpa [upT] using hi, hr⟩
theorem App.nil {H : Nat → Option Ob} {slot e sz : Nat} : App H slot e sz [] (.sc (.slice none 0 0)) [] := .inl ⟨rfl, rfl, rfl⟩
/-- One more row, ahead of which the rows were none. -/
theorem App.one_more {H : Nat → Option Ob} {slot e sz gn m : Nat} {rows : List (List D)} {r cs : List D} {T T' : List TE} (h0 : rows = []) (hm : m = 1) (hH : H slot = some ⟨gn, e, sz, cs, none⟩) (ho : OL O1 r cs T') (hT : T = T') : App H slot e sz (rows ++ [r]) (.ms slot gn m) T := by
  subst h0; subst hT; subst hm
  exact .inr ⟨by simp, gn, cs, rfl, hH, by simpa using ho⟩
theorem App.more {H : Nat → Option Ob} {slot e sz gn m : Nat} {rows : List (List D)} {r cs es : List D} {T T' : List TE} (hm : m = rows.length + 1) (hH : H slot = some ⟨gn, e, sz, cs ++ es, none⟩) (hc : OL O1 rows.flatten cs T) (ho : OL O1 r es T') : App H slot e sz (rows ++ [r]) (.ms slot gn m) (T ++ T') := by
  subst hm
  exact .inr ⟨by simp, gn, cs ++ es, by simp, hH, by simpa using hc.app ho⟩

/-- A slice without elements is nil, or it is not. -/
theorem SpG.none {P : Program} {f : FuncId} {sz : Nat} {r : D} (h0 : SpG P f [.sc (.slice none 0 0)] [] [] r) (h1 : ∀ a c, SpG P f [.sc (.slice (some a) 0 c)] [] [] r) : SpG P f [.sl sz []] [] [] r := by
  refine ⟨h0.ok, rfl, fun w M vs hM hl hv ht hnd => ?_⟩
  obtain ⟨v, rfl⟩ : ∃ v, vs = [v] := by
    match vs, hl with
    | [v], _ => exact ⟨v, rfl⟩
  have hv0 := hv 0 _ v rfl rfl
  generalize hd : D.sl sz [] = d at hv0
  have key : ∀ u, SpG P f [.sc u] [] [] r → v = u → Calls P f #[v] w fun e w' => ∃ v, e = .returned v ∧ (mkB w M fun b => ∃ e ∈ ([] : List TE), b ∈ e.F).Ok w' ∧ (∀ e ∈ upT [] [], T1 w' e.d e.u e.F) ∧ ∃ F, T3 w' r v F ∧ F.Nodup ∧ ∀ b ∈ F, w.heap.size ≤ b := by
    rintro u hs rfl
    refine hs.run w M [v] hM rfl (fun i d u hd hu => ?_) ht hnd
    cases i with
    | zero => simp at hd hu; subst hd; subst hu; exact .sc _
    | succ i => simp at hd
  cases hv0 <;> cases hd
  · exact key _ h0 rfl
  · exact key _ (h1 _ _) rfl
  · exact key _ (h1 _ _) rfl
end Go.Fw
