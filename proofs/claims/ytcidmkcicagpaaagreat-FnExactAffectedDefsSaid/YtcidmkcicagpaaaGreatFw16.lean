/-
  Lists that a call makes and that nobody writes afterwards, as answers. No condition.
-/
import Derived.Test.YtcidmkcicagpaaaGreatFw15
namespace Go.Fw
open Go.RowKit

theorem OwnL.rd {w : World} {M : Nat → Prop} {e : TypeId} {sz : Nat} {rows : List (List D)} {v : Value} {y : Option Nat} (h : OwnL w M e sz rows v y) (hl : ∀ r ∈ rows, r.length = sz) (hy : ∀ b, y = some b → ¬ M b) :
    Rd (view w M (fun _ => none) noN) (.sl sz rows) v := by
  cases y with
  | none => obtain ⟨rfl, rfl⟩ := h; exact .nil sz
  | some b =>
    obtain ⟨c, us, rfl, hh, hs, hc, hlen, hcells⟩ := h
    refine .sl sz rows b 0 c (fun i j => us.getD (i * sz + j) undef) hc.2 hc.1 (fun i r hi => hl r (List.mem_of_getElem? hi)) (fun i r j d hi hj => ?_) fun i r j d hi hj => ?_
    · obtain ⟨u, h1, h2⟩ := hcells _ _ (flatten_get hl hi hj)
      refine view_mk ?_ (hy b rfl) (by simp)
      rw [cell_of_block hh, Nat.zero_add, h1]
      simp [h1]
    · obtain ⟨u, h1, h2⟩ := hcells _ _ (flatten_get hl hi hj)
      have : us.getD (i * sz + j) undef = u := by simp [h1]
      rw [this]
      exact h2.mono (view_le fun b' k => .inl k)
theorem SpF.sp {P : Program} {f : FuncId} {as : List D} {e : TypeId} {sz : Nat} {rows : List (List D)} (h : SpF P f as e sz rows) (hl : ∀ r ∈ rows, r.length = sz) : Sp P f as (.sl sz rows) :=
  ⟨h.ok, fun w M vs hM hlen hv => (h.run w M vs hM hlen hv).mono fun z w' ⟨v, y, hz, hb, ho, hy⟩ => ⟨v, hz, hb, ho.rd hl fun b hb' k => by have := hM b k; have := hy b hb'; omega⟩⟩
theorem SpL.spF {P : Program} {f : FuncId} {pre : List D} {e : TypeId} {sz : Nat} {rows : List (List D)} (h : SpL P f pre [] e sz [] rows) : SpF P f (pre ++ [.sc (.slice none 0 0)]) e sz rows :=
  ⟨h.ok, h.cl', fun w M vs hM hlen hv => by
    obtain ⟨us, u, rfl⟩ : ∃ us u, vs = us ++ [u] := by
      have : vs ≠ [] := by intro k; subst k; simp at hlen
      exact ⟨vs.dropLast, vs.getLast this, (List.dropLast_concat_getLast this).symm⟩
    have hle : pre.length = us.length := by simpa using hlen
    have hu : u = .slice none 0 0 := by
      have := hv pre.length (.sc (.slice none 0 0)) u (by simp) (by simp [hle])
      cases this; rfl
    subst hu
    refine (h.run w M us [] _ none hM (by simp) hle rfl (fun i d v hd hv' => ?_) (by simp) ⟨rfl, rfl⟩).mono fun z w' ⟨v, y, hz, hb, ho, hy⟩ => ⟨v, y, hz, bs_below hb (by simp), ho, fun b k => ?_⟩
    · refine (hv i d v (by rw [List.getElem?_append_left (List.getElem?_eq_some_iff.1 hd).1]; exact hd) (by rw [List.getElem?_append_left (List.getElem?_eq_some_iff.1 hv').1]; exact hv')).mono (view_le fun b => ?_)
      rintro (k | k)
      · exact k
      · cases k
    · rcases hy b k with k | k
      · exact k
      · cases k⟩
/-- A list of numbers beside a number, as a fresh answer. -/
theorem Lst.close_tp {S : List Nat} {s : St} {e : TypeId} {l : List Int} {x : D} {v : Value} (h : Lst S s.H e 1 (l.map fun i => [.sc (.int .i64 i)]) x) : closeK [] [] (.tp [.sl 1 (l.map fun i => [.sc (.int .i64 i)]), .sc v]) s (.tp [x, .sc v]) := by
  rcases h with ⟨h1, rfl⟩ | ⟨t, gn, -, rfl, hH⟩
  · rw [h1]
    exact ⟨[] ++ ([] ++ []), s.T, .tp (.cons (.one (.nil 1)) (.cons (.one (.sc _)) .nil)), by simp [upT, inls], by simp [inrs]⟩
  · have hc := C1.ms (H := s.H) t ⟨gn, e, 1, (l.map fun i => [D.sc (.int .i64 i)]).flatten, none⟩ (l.map fun i => [D.sc (.int .i64 i)]) (fun j => ((l.map fun i => [D.sc (.int .i64 i)]).flatten).getD j .any) (fun _ => []) hH rfl (Nat.lt_add_one 0) (by simp)
      (fun j d hd => by simp only; rw [hd, List.getD_eq_getElem?_getD, hd]; rfl) (fun j d hd => by
        rw [List.getD_eq_getElem?_getD, hd]
        have hm := List.mem_of_getElem? hd
        simp only [List.mem_flatten, List.mem_map] at hm
        obtain ⟨r, ⟨i, -, rfl⟩, hd'⟩ := hm
        simp at hd'
        subst hd'
        exact .sc _)
    have hf : ∀ L : List Nat, L.flatMap (fun _ => ([] : Us)) = [] := fun L => by induction L <;> simp_all
    rw [hf] at hc
    refine ⟨_, s.T, .tp (.cons (.one hc) (.cons (.one (.sc _)) .nil)), ?_, ?_⟩
    · simp [upT, inls]
    · simp [inrs]
end Go.Fw
