/-
  Plain lemmas on lists that the contracts of library functions use. No condition.
-/
import Derived.Test.YtcidmkcicagpaaaGreatFw4
namespace Go.Fw
/-- where the first element with a property stands, or -1 -/
def idxF {X : Type} (p : X → Bool) : List X → Int
  | [] => -1
  | x :: l => if p x then 0 else (if idxF p l < 0 then -1 else idxF p l + 1)
theorem idxF_none {X : Type} {p : X → Bool} : ∀ {l : List X}, l.any p = false → idxF p l = -1
  | [], _ => rfl
  | x :: l, h => by
    simp only [List.any_cons, Bool.or_eq_false_iff] at h
    simp [idxF, h.1, idxF_none h.2]
theorem idxF_hit {X : Type} {p : X → Bool} : ∀ {l : List X} {k : Nat} (h : k < l.length), (l.take k).any p = false → p l[k] = true → idxF p l = k
  | [], k, h, _, _ => by simp at h
  | x :: l, 0, _, _, h => by simp at h; simp [idxF, h]
  | x :: l, k + 1, hk, h, h2 => by
    simp only [List.take_succ_cons, List.any_cons, Bool.or_eq_false_iff] at h
    have := idxF_hit (p := p) (l := l) (k := k) (by simpa using hk) h.2 (by simpa using h2)
    simp only [idxF, h.1, this]
    simp
    omega
theorem idxF_any {X : Type} {p : X → Bool} (l : List X) : decide (idxF p l ≥ 0) = l.any p := by
  induction l with
  | nil => rfl
  | cons x l ih =>
    rw [List.any_cons, ← ih]
    by_cases hp : p x = true
    · simp [idxF, hp]
    · have hp' : p x = false := by simpa using hp
      by_cases h : idxF p l < 0
      · simp [idxF, hp', h]
      · simp [idxF, hp', h]; omega
theorem any_take_succ {X : Type} {p : X → Bool} {l : List X} {k : Nat} (h : k < l.length) : (l.take (k + 1)).any p = ((l.take k).any p || p l[k]) := by
  rw [List.take_succ_eq_append_getElem h, List.any_append]; simp only [List.any_cons, List.any_nil, Bool.or_false]
theorem all_take_succ {X : Type} {p : X → Bool} {l : List X} {k : Nat} (h : k < l.length) : (l.take (k + 1)).all p = ((l.take k).all p && p l[k]) := by
  rw [List.take_succ_eq_append_getElem h, List.all_append]; simp only [List.all_cons, List.all_nil, Bool.and_true]
theorem all_of_take {X : Type} {p : X → Bool} {l : List X} {k : Nat} (h : k < l.length) (hp : p l[k] = false) : l.all p = false := by
  rw [List.all_eq_false]; exact ⟨l[k], List.getElem_mem h, by simp [hp]⟩
def inR (n lo hi : Int) : Bool := decide (lo ≤ n ∧ n ≤ hi)
end Go.Fw
