/-
  A list that grows by append, told in one step. No condition.
-/
import Derived.Test.YtcidmkcicagpaaaGreatFw14
namespace Go.Fw
open Go.RowKit
section
variable {P : Program} {mu : List Nat} {s : St} {t i j : Nat} {ty e : TypeId} {sz by' : Nat} {K : St → Prop} {S : List Nat} {rows rows2 : List (List D)}
theorem newsD_shape {dy : D} {q : Nat × List D} (h : newsD s e sz dy = some q) (hq : 0 < q.1) : (∃ sz' r, dy = .sl sz' r) ∨ ∃ t g m, dy = .ms t g m := by
  unfold newsD at h
  split at h
  · exact .inl ⟨_, _, rfl⟩
  · exact .inr ⟨_, _, _, rfl⟩
  · cases h; exact absurd hq (by simp)
  · cases h
theorem opK.app (hi : elemInfo P ty = some (e, sz, by')) (hx : Lst S s.H e sz rows (s.env i)) (hl : ∀ r ∈ rows, r.length = sz) (hy : newsD s e sz (s.env j) = some (rows2.length, rows2.flatten)) (hpos : 0 < rows2.length) (h1 : rows2.flatten.all oneD = true)
    (hb : (rows.length + rows2.length) * by' ≤ 140737488355328) (hm : rows.length + rows2.length ≤ maxLen)
    (hK : ∀ H n x', Lst [t] H e sz (rows ++ rows2) x' → (∀ t', t' ≠ t → t' ∉ S → H t' = s.H t') → K ({ s with H := H, n := n }.put (some t) x')) :
    opK P mu (.call ⟨.builtin .append, #[.tmp i, .tmp j], #[ty, ty]⟩) (some t) K s := by
  show memK t K (stepMem P mu s t (.call ⟨.builtin .append, #[.tmp i, .tmp j], #[ty, ty]⟩))
  have hx0 := hx
  rcases hx with ⟨rfl, hxe⟩ | ⟨t0, gn, hS, hxe, hob⟩
  · have hst : stepMem P mu s t (.call ⟨.builtin .append, #[.tmp i, .tmp j], #[ty, ty]⟩) = some (rows2.flatten.all oneD = true ∧ 0 < rows2.length ∧ rows2.length * by' ≤ 140737488355328 ∧ rows2.length ≤ maxLen, newOb s t e sz rows2.flatten, .ms t (s.n t) rows2.length) := by
      rcases newsD_shape hy hpos with ⟨sz', r, hdy⟩ | ⟨t1, g1, m1, hdy⟩ <;> rw [hdy] at hy <;> simp only [stepMem, St.ev, hxe, hdy, hi, if_true] <;> rw [hy]
    rw [hst]
    refine ⟨⟨h1, hpos, by simpa using hb, by simpa using hm⟩, hK (newOb s t e sz rows2.flatten).H _ _ (.inr ⟨t, s.n t, by simp, by simp, ?_⟩) fun t' k1 k2 => ?_⟩
    · simp [newOb, upd_same]
    · simp only [newOb]; rw [upd_ne _ _ k1, upd_ne _ _ k1]
  · have hst : stepMem P mu s t (.call ⟨.builtin .append, #[.tmp i, .tmp j], #[ty, ty]⟩) = some (rows2.flatten.all oneD = true ∧ (rows.length + rows2.length) * by' ≤ 140737488355328 ∧ rows.length + rows2.length ≤ maxLen, movOb s t0 t e sz (rows.flatten ++ rows2.flatten), .ms t (s.n t) (rows.length + rows2.length)) := by
      rcases newsD_shape hy hpos with ⟨sz', r, hdy⟩ | ⟨t1, g1, m1, hdy⟩ <;> rw [hdy] at hy <;> simp only [stepMem, St.ev, hxe, hdy, hi, if_true] <;> rw [hob, hy] <;> simp only [flatten_len hl, and_self, if_true]
    rw [hst]
    refine ⟨⟨h1, hb, hm⟩, hK (movOb s t0 t e sz (rows.flatten ++ rows2.flatten)).H _ _ (.inr ⟨t, s.n t, by simp, by simp, ?_⟩) fun t' k1 k2 => ?_⟩
    · simp [movOb, upd_same]
    · simp only [movOb]; rw [upd_ne _ _ k1, upd_ne _ _ (fun q => k2 (by rw [q]; exact hS))]
/-- The same where what is appended may be nothing. -/
theorem GK.app' (hij : i ≠ j) (hi : elemInfo P ty = some (e, sz, by')) (hx : Lst S s.H e sz rows (s.env i)) (hl : ∀ r ∈ rows, r.length = sz) (hy : newsD s e sz (s.env j) = some (rows2.length, rows2.flatten)) (hy0 : rows2 = [] → s.env j = .sl sz []) (h1 : rows2.flatten.all oneD = true)
    (hb : (rows.length + rows2.length) * by' ≤ 140737488355328) (hm : rows.length + rows2.length ≤ maxLen)
    (hK : ∀ H n x' env', (∀ u, u ≠ j → env' u = s.env u) → Lst [t] H e sz (rows ++ rows2) x' → (∀ t', t' ≠ t → t' ∉ S → H t' = s.H t') → K ({ s with env := env', H := H, n := n }.put (some t) x')) :
    GK (opK P mu (.call ⟨.builtin .append, #[.tmp i, .tmp j], #[ty, ty]⟩) (some t) K) s := by
  by_cases hz : rows2 = []
  · subst hz
    have hyj := hy0 rfl
    have hx0 := hx
    rcases hx with ⟨rfl, hxe⟩ | ⟨t0, gn, hS, hxe, hob⟩
    · have key : ∀ v, (v = .slice none 0 0 ∨ ∃ a c, v = .slice (some a) 0 c) → opK P mu (.call ⟨.builtin .append, #[.tmp i, .tmp j], #[ty, ty]⟩) (some t) K { s with env := setE s.env j (.sc v) } := fun v hv => by
        show memK t K (stepMem P mu _ t (.call ⟨.builtin .append, #[.tmp i, .tmp j], #[ty, ty]⟩))
        have e1 : setE s.env j (.sc v) i = .sc (.slice none 0 0) := by simp only [setE]; rw [if_neg hij]; exact hxe
        have e2 : setE s.env j (.sc v) j = .sc v := by simp [setE]
        have hst : stepMem P mu { s with env := setE s.env j (.sc v) } t (.call ⟨.builtin .append, #[.tmp i, .tmp j], #[ty, ty]⟩) = some (True, { s with env := setE s.env j (.sc v) }, .sc (.slice none 0 0)) := by
          simp only [stepMem, St.ev, e1, e2, hi, if_true]
          rcases hv with rfl | ⟨a, c, rfl⟩ <;> rfl
        rw [hst]
        exact ⟨trivial, hK s.H s.n _ _ (fun u hu => by simp [setE, hu]) .nil fun _ _ _ => rfl⟩
      exact GK.empty j sz hyj (key _ (.inl rfl)) fun a c => key _ (.inr ⟨a, c, rfl⟩)
    · refine GK.intro ?_
      show memK t K (stepMem P mu s t (.call ⟨.builtin .append, #[.tmp i, .tmp j], #[ty, ty]⟩))
      have hst : stepMem P mu s t (.call ⟨.builtin .append, #[.tmp i, .tmp j], #[ty, ty]⟩) = some (([] : List D).all oneD = true ∧ (rows.length + 0) * by' ≤ 140737488355328 ∧ rows.length + 0 ≤ maxLen, movOb s t0 t e sz (rows.flatten ++ []), .ms t (s.n t) (rows.length + 0)) := by
        simp only [stepMem, St.ev, hxe, hyj, hi, if_true, newsD, List.length_nil, List.flatten_nil, hob, flatten_len hl, and_self]
      rw [hst]
      refine ⟨⟨rfl, by simpa using hb, by simpa using hm⟩, hK (movOb s t0 t e sz (rows.flatten ++ [])).H _ _ s.env (fun _ _ => rfl) (.inr ⟨t, s.n t, by simp, by simp, ?_⟩) fun t' k1 k2 => ?_⟩
      · simp [movOb, upd_same]
      · simp only [movOb]; rw [upd_ne _ _ k1, upd_ne _ _ (fun q => k2 (by rw [q]; exact hS))]
  · exact GK.intro (opK.app hi hx hl hy (List.length_pos_iff.2 hz) h1 hb hm fun H n x' h1 h2 => hK H n x' s.env (fun _ _ => rfl) h1 h2)
end
/-! ### Arguments that say more -/
theorem LeD.nil {sz : Nat} : LeD (.sc (.slice none 0 0)) (.sl sz []) := fun V v h => by cases h; exact .nil sz
theorem SpL.le2 {P : Program} {f : FuncId} {a b a' b' : D} {post : List D} {e : TypeId} {sz : Nat} {rows rows' : List (List D)} (h : SpL P f [a, b] post e sz rows rows') (ha : LeD a' a) (hb : LeD b' b) : SpL P f [a', b'] post e sz rows rows' :=
  ⟨h.ok, h.cl, h.cl', fun w M us vs u x hM hx h1 h2 r1 r2 ho => h.run w M us vs u x hM hx h1 h2 (fun i d v hd hv => by
    match i, hd with
    | 0, hd => simp at hd; subst hd; exact ha _ _ (r1 0 _ v rfl hv)
    | 1, hd => simp at hd; subst hd; exact hb _ _ (r1 1 _ v rfl hv)) r2 ho⟩
end Go.Fw
