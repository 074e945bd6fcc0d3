/-
  Plain functions on trees: depth, number of nodes, right form. No condition.
-/
import Derived.Test.YtcidmkcicagpaaaGreatL1
import Derived.Test.YtcidmkcicagpaaaGreatFw6
namespace Go.Fw
theorem int_beq (a b : Int) : (a == b) = decide (a = b) := by by_cases h : a = b <;> simp [h]
theorem not_any_not {X : Type} (p : X → Bool) (l : List X) : (!l.any fun z => !p z) = l.all p := by induction l with
  | nil => rfl
  | cons x l ih => simp only [List.any_cons, List.all_cons, ← ih]; cases p x <;> simp
theorem wrap_add (a b : Nat) (h : a + b < 9223372036854775808) : IntKind.i64.wrap ((a : Int) + (b : Int)) = ((a + b : Nat) : Int) := by
  have := Go.IntWalk.i64_in ((a : Int) + b) (by omega)
  rw [this]; omega
mutual
def Typ.num : Typ → Nat
  | .mk _ _ ks => 1 + Typ.numS ks
def Typ.numS : List Typ → Nat
  | [] => 0
  | c :: cs => c.num + Typ.numS cs
end
mutual
def Typ.dep : Typ → Nat
  | .mk _ _ ks => 1 + Typ.depS ks
def Typ.depS : List Typ → Nat
  | [] => 0
  | c :: cs => max c.dep (Typ.depS cs)
end
theorem Typ.numS_take : ∀ (l : List Typ) (k : Nat) (h : k < l.length), Typ.numS (l.take (k + 1)) = Typ.numS (l.take k) + (l[k]).num
  | [], k, h => by simp at h
  | c :: cs, 0, _ => by simp [Typ.numS]
  | c :: cs, k + 1, h => by
    have := Typ.numS_take cs k (by simpa using h)
    simp only [List.take_succ_cons, Typ.numS, this, List.getElem_cons_succ]; omega
theorem Typ.depS_take : ∀ (l : List Typ) (k : Nat) (h : k < l.length), Typ.depS (l.take (k + 1)) = max (Typ.depS (l.take k)) (l[k]).dep
  | [], k, h => by simp at h
  | c :: cs, 0, _ => by simp [Typ.depS]
  | c :: cs, k + 1, h => by
    have := Typ.depS_take cs k (by simpa using h)
    simp only [List.take_succ_cons, Typ.depS, this, List.getElem_cons_succ]; omega
theorem Typ.numS_le : ∀ (l : List Typ) (k : Nat), Typ.numS (l.take k) ≤ Typ.numS l
  | [], k => by simp
  | c :: cs, 0 => by simp [Typ.numS]
  | c :: cs, k + 1 => by have := Typ.numS_le cs k; simp only [List.take_succ_cons, Typ.numS]; omega
theorem Typ.depS_le : ∀ (l : List Typ) (k : Nat), Typ.depS (l.take k) ≤ Typ.depS l
  | [], k => by simp
  | c :: cs, 0 => by simp [Typ.depS]
  | c :: cs, k + 1 => by have := Typ.depS_le cs k; simp only [List.take_succ_cons, Typ.depS]; omega
theorem Typ.dep_mem : ∀ {l : List Typ} {c : Typ}, c ∈ l → c.dep ≤ Typ.depS l
  | [], _, h => by cases h
  | d :: cs, c, h => by
    simp only [Typ.depS]
    rcases List.mem_cons.1 h with e | h
    · subst e; omega
    · have := Typ.dep_mem h; omega
theorem Typ.num_mem : ∀ {l : List Typ} {c : Typ}, c ∈ l → c.num ≤ Typ.numS l
  | [], _, h => by cases h
  | d :: cs, c, h => by
    simp only [Typ.numS]
    rcases List.mem_cons.1 h with e | h
    · subst e; omega
    · have := Typ.num_mem h; omega
mutual
theorem Typ.dep_le_num : ∀ c : Typ, c.dep ≤ c.num
  | .mk _ _ ks => by have := Typ.depS_le_numS ks; simp only [Typ.dep, Typ.num]; omega
theorem Typ.depS_le_numS : ∀ l : List Typ, Typ.depS l ≤ Typ.numS l
  | [] => by simp [Typ.depS]
  | c :: cs => by have := Typ.dep_le_num c; have := Typ.depS_le_numS cs; simp only [Typ.depS, Typ.numS]; omega
end
mutual
theorem Typ.num_le_sz : ∀ c : Typ, c.num ≤ 1 + c.sz
  | .mk v0 v1 ks => by have := Typ.numS_le_szS ks; simp only [Typ.num, Typ.sz]; omega
theorem Typ.numS_le_szS : ∀ l : List Typ, Typ.numS l ≤ l.length + Typ.szS l
  | [] => by simp [Typ.numS]
  | c :: cs => by have := Typ.num_le_sz c; have := Typ.numS_le_szS cs; simp only [Typ.numS, Typ.szS, List.length_cons]; omega
end
theorem Typ.num_pos : ∀ c : Typ, 1 ≤ c.num
  | .mk _ _ ks => by simp only [Typ.num]; omega
theorem Typ.dep_pos : ∀ c : Typ, 1 ≤ c.dep
  | .mk _ _ ks => by simp only [Typ.dep]; omega
mutual
def Typ.good (p : Typ → Bool) : Typ → Bool
  | .mk v0 v1 ks => p (.mk v0 v1 ks) && Typ.goodS p ks
def Typ.goodS (p : Typ → Bool) : List Typ → Bool
  | [] => true
  | c :: cs => c.good p && Typ.goodS p cs
end
theorem Typ.goodS_eq {p : Typ → Bool} : ∀ l : List Typ, Typ.goodS p l = l.all (Typ.good p)
  | [] => by simp [Typ.goodS]
  | c :: cs => by rw [Typ.goodS, Typ.goodS_eq cs]; simp
mutual
def Term.num : Term → Nat
  | .mk _ _ _ _ _ ks => 1 + Term.numS ks
def Term.numS : List Term → Nat
  | [] => 0
  | c :: cs => c.num + Term.numS cs
end
mutual
def Term.dep : Term → Nat
  | .mk _ _ _ _ _ ks => 1 + Term.depS ks
def Term.depS : List Term → Nat
  | [] => 0
  | c :: cs => max c.dep (Term.depS cs)
end
theorem Term.numS_take : ∀ (l : List Term) (k : Nat) (h : k < l.length), Term.numS (l.take (k + 1)) = Term.numS (l.take k) + (l[k]).num
  | [], k, h => by simp at h
  | c :: cs, 0, _ => by simp [Term.numS]
  | c :: cs, k + 1, h => by
    have := Term.numS_take cs k (by simpa using h)
    simp only [List.take_succ_cons, Term.numS, this, List.getElem_cons_succ]; omega
theorem Term.depS_take : ∀ (l : List Term) (k : Nat) (h : k < l.length), Term.depS (l.take (k + 1)) = max (Term.depS (l.take k)) (l[k]).dep
  | [], k, h => by simp at h
  | c :: cs, 0, _ => by simp [Term.depS]
  | c :: cs, k + 1, h => by
    have := Term.depS_take cs k (by simpa using h)
    simp only [List.take_succ_cons, Term.depS, this, List.getElem_cons_succ]; omega
theorem Term.numS_le : ∀ (l : List Term) (k : Nat), Term.numS (l.take k) ≤ Term.numS l
  | [], k => by simp
  | c :: cs, 0 => by simp [Term.numS]
  | c :: cs, k + 1 => by have := Term.numS_le cs k; simp only [List.take_succ_cons, Term.numS]; omega
theorem Term.depS_le : ∀ (l : List Term) (k : Nat), Term.depS (l.take k) ≤ Term.depS l
  | [], k => by simp
  | c :: cs, 0 => by simp [Term.depS]
  | c :: cs, k + 1 => by have := Term.depS_le cs k; simp only [List.take_succ_cons, Term.depS]; omega
theorem Term.dep_mem : ∀ {l : List Term} {c : Term}, c ∈ l → c.dep ≤ Term.depS l
  | [], _, h => by cases h
  | d :: cs, c, h => by
    simp only [Term.depS]
    rcases List.mem_cons.1 h with e | h
    · subst e; omega
    · have := Term.dep_mem h; omega
theorem Term.num_mem : ∀ {l : List Term} {c : Term}, c ∈ l → c.num ≤ Term.numS l
  | [], _, h => by cases h
  | d :: cs, c, h => by
    simp only [Term.numS]
    rcases List.mem_cons.1 h with e | h
    · subst e; omega
    · have := Term.num_mem h; omega
mutual
theorem Term.dep_le_num : ∀ c : Term, c.dep ≤ c.num
  | .mk _ _ _ _ _ ks => by have := Term.depS_le_numS ks; simp only [Term.dep, Term.num]; omega
theorem Term.depS_le_numS : ∀ l : List Term, Term.depS l ≤ Term.numS l
  | [] => by simp [Term.depS]
  | c :: cs => by have := Term.dep_le_num c; have := Term.depS_le_numS cs; simp only [Term.depS, Term.numS]; omega
end
mutual
theorem Term.num_le_sz : ∀ c : Term, c.num ≤ 1 + c.sz
  | .mk v0 v1 v2 v3 v4 ks => by have := Term.numS_le_szS ks; simp only [Term.num, Term.sz]; omega
theorem Term.numS_le_szS : ∀ l : List Term, Term.numS l ≤ l.length + Term.szS l
  | [] => by simp [Term.numS]
  | c :: cs => by have := Term.num_le_sz c; have := Term.numS_le_szS cs; simp only [Term.numS, Term.szS, List.length_cons]; omega
end
theorem Term.num_pos : ∀ c : Term, 1 ≤ c.num
  | .mk _ _ _ _ _ ks => by simp only [Term.num]; omega
theorem Term.dep_pos : ∀ c : Term, 1 ≤ c.dep
  | .mk _ _ _ _ _ ks => by simp only [Term.dep]; omega
mutual
def Term.good (p : Term → Bool) : Term → Bool
  | .mk v0 v1 v2 v3 v4 ks => p (.mk v0 v1 v2 v3 v4 ks) && Term.goodS p ks
def Term.goodS (p : Term → Bool) : List Term → Bool
  | [] => true
  | c :: cs => c.good p && Term.goodS p cs
end
theorem Term.goodS_eq {p : Term → Bool} : ∀ l : List Term, Term.goodS p l = l.all (Term.good p)
  | [] => by simp [Term.goodS]
  | c :: cs => by rw [Term.goodS, Term.goodS_eq cs]; simp
end Go.Fw
