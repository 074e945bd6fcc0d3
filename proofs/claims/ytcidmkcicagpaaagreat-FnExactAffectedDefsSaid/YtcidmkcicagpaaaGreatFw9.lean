/-
  Rows that grow by append, cell by cell of values and trees. No condition.
-/
import Derived.Test.YtcidmkcicagpaaaGreatFw8
namespace Go.Fw
/-- What a variable holds whose rows grow by append: nothing yet, or an object of the call's own. -/
def App (H : Nat → Option Ob) (slot : Nat) (e : TypeId) (sz : Nat) (rows : List (List D)) (x : D) (T : List TE) : Prop :=
  (rows = [] ∧ x = .sc (.slice none 0 0) ∧ T = []) ∨ (0 < rows.length ∧ ∃ gn cs, x = .ms slot gn rows.length ∧ H slot = some ⟨gn, e, sz, cs, none⟩ ∧ OL O1 rows.flatten cs T)
theorem App.c1 {H : Nat → Option Ob} {slot e sz : Nat} {rows : List (List D)} {x : D} {T : List TE} (h : App H slot e sz rows x T) (h0 : 0 < sz) (hl : ∀ r ∈ rows, r.length = sz) : ∃ us, C1 H x (.sl sz rows) us ∧ inls us = T ∧ (inrs us = [] ∨ inrs us = [slot]) := by
  rcases h with ⟨rfl, rfl, rfl⟩ | ⟨_, gn, cs, rfl, hH, ho⟩
  · exact ⟨[], .nil sz, rfl, .inl rfl⟩
  · exact ⟨_, C1.rows hH rfl rfl h0 rfl hl ho, by simp [inls, inls_map], .inr (by simp [inrs, inrs_map])⟩
theorem App.congr {H H' : Nat → Option Ob} {slot e sz : Nat} {rows : List (List D)} {x : D} {T : List TE} (h : App H slot e sz rows x T) (k : H' slot = H slot) : App H' slot e sz rows x T := by unfold App at *; rw [k]; exact h
theorem App.one {H : Nat → Option Ob} {slot e sz : Nat} {rows : List (List D)} {x : D} {T : List TE} (h : App H slot e sz rows x T) : oneD x = true := by
  rcases h with ⟨_, rfl, _⟩ | ⟨_, gn, cs, rfl, _⟩ <;> rfl
theorem closeK_mix {s : St} {ds es : List D} {us : Us} (h : CL (C1 s.H) es ds us) (hi : inls us = s.T) (hr : (inrs us).Nodup) : closeK [] [] (.ag ds) s (.ag es) :=
  ⟨us, [], .one (.ag h), by simp [upT, hi], hr⟩
theorem OL.tr0 {sz : Nat} {rows : List (List D)} {ds es : List D} {T : List TE} (h : OL O1 ds es T) : OL O1 (.sl sz rows :: ds) (.sc (.slice none 0 0) :: es) (⟨.slice none 0 0, .sl sz rows, []⟩ :: T) := OL.tr' h
theorem take_full {es r : List D} {n : Nat} (h : es.length = n) : (es ++ r).take n = es := by rw [← h, List.take_left]
theorem drop_full {es r : List D} {n : Nat} (h : es.length = n) : (es ++ r).drop n = r := by rw [← h, List.drop_left]
end Go.Fw
