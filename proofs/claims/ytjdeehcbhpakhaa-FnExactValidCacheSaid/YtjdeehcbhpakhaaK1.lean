/-
  Plain functions on core terms: number of nodes, depth, right form, free variables, boxes. No condition.
-/
import Derived.Test.YtjdeehcbhpakhaaL1
import Derived.Test.YtjdeehcbhpakhaaFw6
namespace Go.Fw
def bindsF (k : Int) (i : Nat) : Int := if k = 4 ∨ (k = 7 ∧ i = 1) then 1 else 0
def shapeF (k : Int) : Int × Int × Int × Int :=
  if k = 1 ∨ k = 2 ∨ k = 11 then (0, 0, 0, 0) else if k = 3 ∨ k = 5 ∨ k = 7 then (2, 2, 0, 0) else if k = 4 ∨ k = 6 then (1, 1, 0, 0)
  else if k = 8 then (0, 3, 0, 0) else if k = 9 then (1, 1, 1, 4) else if k = 10 then (1, 1, 2, 2) else (0, -1, 0, 0)
def valueF (k v : Int) : Bool :=
  if k = 1 then inR v 0 255 else if k = 2 then inR v (-2147483648) 2147483647 else if k = 3 then inR v 1 6 else if k = 8 then inR v 0 3 else if k = 11 then inR v 0 23 else decide (v = 0)
def nodeF : Core → Bool
  | .mk k v d ks => inR ks.length (shapeF k).1 (shapeF k).2.1 && inR d.length (shapeF k).2.2.1 (shapeF k).2.2.2 && valueF k v && d.all fun z => inR z 0 23
theorem not_any_not {X : Type} (p : X → Bool) (l : List X) : (!l.any fun z => !p z) = l.all p := by induction l with
  | nil => rfl
  | cons x l ih => simp only [List.any_cons, List.all_cons, ← ih]; cases p x <;> simp
theorem nat_one (i : Nat) : ((i : Int) = 1) ↔ i = 1 := by omega
theorem int_beq (a b : Int) : (a == b) = decide (a = b) := by by_cases h : a = b <;> simp [h]
mutual
def Core.cnt : Core → Nat
  | .mk _ _ _ ks => 1 + Core.cntS ks
def Core.cntS : List Core → Nat
  | [] => 0
  | c :: cs => c.cnt + Core.cntS cs
end
mutual
def Core.dep : Core → Nat
  | .mk _ _ _ ks => 1 + Core.depS ks
def Core.depS : List Core → Nat
  | [] => 0
  | c :: cs => max c.dep (Core.depS cs)
end
mutual
def Core.good : Core → Bool
  | .mk k v d ks => nodeF (.mk k v d ks) && Core.goodS ks
def Core.goodS : List Core → Bool
  | [] => true
  | c :: cs => c.good && Core.goodS cs
end
mutual
def Core.above : Core → Int → Bool
  | .mk k v _ ks, n => if k = 1 then decide (v ≥ n) else Core.aboveS k ks 0 n
def Core.aboveS (k : Int) : List Core → Nat → Int → Bool
  | [], _, _ => false
  | c :: cs, i, n => c.above (n + bindsF k i) || Core.aboveS k cs (i + 1) n
end
mutual
def Core.under : Core → Int → Bool
  | .mk k v _ ks, n => !(decide (k = 1) && decide (v ≥ n)) && Core.underS k ks 0 n
def Core.underS (k : Int) : List Core → Nat → Int → Bool
  | [], _, _ => true
  | c :: cs, i, n => c.under (n + bindsF k i) && Core.underS k cs (i + 1) n
end
mutual
def Core.anyC (p : Core → Bool) : Core → Bool
  | .mk k v d ks => p (.mk k v d ks) || Core.anyCS p ks
def Core.anyCS (p : Core → Bool) : List Core → Bool
  | [] => false
  | c :: cs => c.anyC p || Core.anyCS p cs
end
def boxed : Core → Bool
  | .mk k _ _ _ => decide (k = 6 ∨ k = 7)

theorem Core.anyCS_eq {p : Core → Bool} : ∀ l : List Core, Core.anyCS p l = l.any (Core.anyC p)
  | [] => by simp [Core.anyCS]
  | c :: cs => by rw [Core.anyCS, Core.anyCS_eq cs]; simp
theorem Core.goodS_eq : ∀ l : List Core, Core.goodS l = l.all Core.good
  | [] => by simp [Core.goodS]
  | c :: cs => by rw [Core.goodS, Core.goodS_eq cs]; simp
theorem Core.cntS_take : ∀ (l : List Core) (k : Nat) (h : k < l.length), Core.cntS (l.take (k + 1)) = Core.cntS (l.take k) + (l[k]).cnt
  | [], k, h => by simp at h
  | c :: cs, 0, _ => by simp [Core.cntS]
  | c :: cs, k + 1, h => by
    have := Core.cntS_take cs k (by simpa using h)
    simp only [List.take_succ_cons, Core.cntS, this, List.getElem_cons_succ]; omega
theorem Core.depS_take : ∀ (l : List Core) (k : Nat) (h : k < l.length), Core.depS (l.take (k + 1)) = max (Core.depS (l.take k)) (l[k]).dep
  | [], k, h => by simp at h
  | c :: cs, 0, _ => by simp [Core.depS]
  | c :: cs, k + 1, h => by
    have := Core.depS_take cs k (by simpa using h)
    simp only [List.take_succ_cons, Core.depS, this, List.getElem_cons_succ]; omega
theorem Core.cntS_le : ∀ (l : List Core) (k : Nat), Core.cntS (l.take k) ≤ Core.cntS l
  | [], k => by simp
  | c :: cs, 0 => by simp [Core.cntS]
  | c :: cs, k + 1 => by have := Core.cntS_le cs k; simp only [List.take_succ_cons, Core.cntS]; omega
theorem Core.depS_le : ∀ (l : List Core) (k : Nat), Core.depS (l.take k) ≤ Core.depS l
  | [], k => by simp
  | c :: cs, 0 => by simp [Core.depS]
  | c :: cs, k + 1 => by have := Core.depS_le cs k; simp only [List.take_succ_cons, Core.depS]; omega
theorem Core.dep_mem : ∀ {l : List Core} {c : Core}, c ∈ l → c.dep ≤ Core.depS l
  | [], _, h => by cases h
  | d :: cs, c, h => by
    simp only [Core.depS]
    rcases List.mem_cons.1 h with e | h
    · subst e; omega
    · have := Core.dep_mem h; omega
theorem Core.cnt_mem : ∀ {l : List Core} {c : Core}, c ∈ l → c.cnt ≤ Core.cntS l
  | [], _, h => by cases h
  | d :: cs, c, h => by
    simp only [Core.cntS]
    rcases List.mem_cons.1 h with e | h
    · subst e; omega
    · have := Core.cnt_mem h; omega
mutual
theorem Core.dep_le_cnt : ∀ c : Core, c.dep ≤ c.cnt
  | .mk _ _ _ ks => by have := Core.depS_le_cntS ks; simp only [Core.dep, Core.cnt]; omega
theorem Core.depS_le_cntS : ∀ l : List Core, Core.depS l ≤ Core.cntS l
  | [] => by simp [Core.depS]
  | c :: cs => by have := Core.dep_le_cnt c; have := Core.depS_le_cntS cs; simp only [Core.depS, Core.cntS]; omega
end
mutual
theorem Core.cnt_le_sz : ∀ c : Core, c.cnt ≤ 1 + c.sz
  | .mk _ _ _ ks => by have := Core.cntS_le_szS ks; simp only [Core.cnt, Core.sz]; omega
theorem Core.cntS_le_szS : ∀ l : List Core, Core.cntS l ≤ l.length + Core.szS l
  | [] => by simp [Core.cntS]
  | c :: cs => by have := Core.cnt_le_sz c; have := Core.cntS_le_szS cs; simp only [Core.cntS, Core.szS, List.length_cons]; omega
end
theorem Core.cnt_pos : ∀ c : Core, 1 ≤ c.cnt
  | .mk _ _ _ ks => by simp only [Core.cnt]; omega
theorem Core.dep_pos : ∀ c : Core, 1 ≤ c.dep
  | .mk _ _ _ ks => by simp only [Core.dep]; omega
theorem Core.aboveS_succ (k n : Int) : ∀ (l : List Core) (i m : Nat) (h : m < l.length), Core.aboveS k (l.take (m + 1)) i n = (Core.aboveS k (l.take m) i n || (l[m]).above (n + bindsF k (i + m)))
  | [], i, m, h => by simp at h
  | c :: cs, i, 0, _ => by simp [Core.aboveS]
  | c :: cs, i, m + 1, h => by
    have := Core.aboveS_succ k n cs (i + 1) m (by simpa using h)
    rw [show i + 1 + m = i + (m + 1) by omega] at this
    simp only [List.take_succ_cons, Core.aboveS, this, List.getElem_cons_succ, Bool.or_assoc]
theorem Core.aboveS_mono (k n : Int) : ∀ (l : List Core) (i m : Nat), Core.aboveS k (l.take m) i n = true → Core.aboveS k l i n = true
  | [], i, m, h => by simpa using h
  | c :: cs, i, 0, h => by simp [Core.aboveS] at h
  | c :: cs, i, m + 1, h => by
    simp only [List.take_succ_cons, Core.aboveS] at h ⊢
    cases hc : c.above (n + bindsF k i)
    · rw [hc] at h
      first | (simp only [Bool.false_or] at h ⊢; exact Core.aboveS_mono k n cs (i + 1) m h) | simp
    · rw [hc] at h
      first | (simp only [Bool.true_and] at h ⊢; exact Core.aboveS_mono k n cs (i + 1) m h) | simp
theorem Core.underS_succ (k n : Int) : ∀ (l : List Core) (i m : Nat) (h : m < l.length), Core.underS k (l.take (m + 1)) i n = (Core.underS k (l.take m) i n && (l[m]).under (n + bindsF k (i + m)))
  | [], i, m, h => by simp at h
  | c :: cs, i, 0, _ => by simp [Core.underS]
  | c :: cs, i, m + 1, h => by
    have := Core.underS_succ k n cs (i + 1) m (by simpa using h)
    rw [show i + 1 + m = i + (m + 1) by omega] at this
    simp only [List.take_succ_cons, Core.underS, this, List.getElem_cons_succ, Bool.and_assoc]
theorem Core.underS_mono (k n : Int) : ∀ (l : List Core) (i m : Nat), Core.underS k (l.take m) i n = false → Core.underS k l i n = false
  | [], i, m, h => by simpa using h
  | c :: cs, i, 0, h => by simp [Core.underS] at h
  | c :: cs, i, m + 1, h => by
    simp only [List.take_succ_cons, Core.underS] at h ⊢
    cases hc : c.under (n + bindsF k i)
    · rw [hc] at h
      first | (simp only [Bool.false_or] at h ⊢; exact Core.underS_mono k n cs (i + 1) m h) | simp
    · rw [hc] at h
      first | (simp only [Bool.true_and] at h ⊢; exact Core.underS_mono k n cs (i + 1) m h) | simp
theorem kids_of_var {v : Int} {d : List Int} {ks : List Core} (h : nodeF (.mk 1 v d ks) = true) : ks = [] := by
  simp only [nodeF, Bool.and_eq_true, inR, decide_eq_true_eq] at h
  have h1 := h.1.1.1.2
  have e : (shapeF 1).2.1 = 0 := by simp [shapeF]
  rw [e] at h1
  exact List.length_eq_zero_iff.1 (by omega)
mutual
theorem Core.under_eq : ∀ (c : Core) (n : Int), c.good = true → c.under n = !c.above n
  | .mk k v d ks, n, h => by
    simp only [Core.good, Bool.and_eq_true] at h
    by_cases hk : k = 1
    · subst hk
      have := kids_of_var h.1
      subst this
      simp [Core.under, Core.above, Core.underS]
    · simp [Core.under, Core.above, hk, Core.underS_eq k ks 0 n h.2]
theorem Core.underS_eq : ∀ (k : Int) (l : List Core) (i : Nat) (n : Int), Core.goodS l = true → Core.underS k l i n = !Core.aboveS k l i n
  | k, [], i, n, _ => by simp [Core.underS, Core.aboveS]
  | k, c :: cs, i, n, h => by
    simp only [Core.goodS, Bool.and_eq_true] at h
    simp [Core.underS, Core.aboveS, Core.under_eq c _ h.1, Core.underS_eq k cs (i + 1) n h.2]
end
def Core.valid (c : Core) : Bool := c.good && decide (c.dep ≤ 80 ∧ c.cnt ≤ 400)
def nodesF (c : Core) (d l : Int) : Int := if c.good = true ∧ (c.dep : Int) ≤ d ∧ (c.cnt : Int) ≤ l then c.cnt else -1
theorem nodesF_pos (c : Core) : decide (nodesF c 80 400 > 0) = c.valid := by
  have := Core.cnt_pos c
  unfold nodesF Core.valid
  by_cases h : c.good = true
  · by_cases h2 : c.dep ≤ 80 ∧ c.cnt ≤ 400
    · rw [if_pos ⟨h, by omega, by omega⟩]; simp [h, h2]; omega
    · rw [if_neg (by rintro ⟨_, h3, h4⟩; exact h2 ⟨by omega, by omega⟩)]; simp [h, h2]
  · rw [if_neg (fun k => h k.1)]; simp [h]
end Go.Fw
