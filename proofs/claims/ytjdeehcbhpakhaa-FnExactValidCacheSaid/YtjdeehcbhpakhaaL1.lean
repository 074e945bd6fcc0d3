/-
  The types of the program's data as plain inductive types, their cells and sizes. No condition.
-/
import Derived.Test.YtjdeehcbhpakhaaFw4
namespace Go.Fw
set_option linter.unusedVariables false
set_option linter.unusedSimpArgs false
def bools (l : List Bool) : D := .sl 1 (l.map fun b => [B b])
@[simp] theorem cl_bools (l : List Bool) : Cl (bools l) := by
  simp only [bools, cl_sl, List.mem_map]; rintro r ⟨b, _, rfl⟩ d hd; simp at hd; subst hd; exact .sc _
def strSz (l : List ByteArray) : Nat := (l.map ByteArray.size).sum
def sumSz (l : List Nat) : Nat := l.sum
theorem mem_le_sum : ∀ {l : List Nat} {n : Nat}, n ∈ l → n ≤ l.sum
  | [], _, h => by cases h
  | a :: l, n, h => by
    rw [List.sum_cons]
    rcases List.mem_cons.1 h with e | h
    · omega
    · have := mem_le_sum h; omega
theorem sum_take_le (l : List Nat) (k : Nat) : (l.take k).sum ≤ l.sum := by
  conv => rhs; rw [← List.take_append_drop k l, List.sum_append]
  omega
theorem sum_take_succ (l : List Nat) (k : Nat) (h : k < l.length) : (l.take (k + 1)).sum = (l.take k).sum + l[k] := by
  rw [List.take_succ_eq_append_getElem h, List.sum_append]; simp
def szF (n : Nat) (left : Int) : Int := if (n : Int) ≤ left then left - n else -1
theorem szF_pos {n : Nat} {left : Int} (h : (n : Int) ≤ left) : szF n left = left - n := if_pos h
theorem szF_neg {n : Nat} {left : Int} (h : ¬ (n : Int) ≤ left) : szF n left = -1 := if_neg h
theorem strSz_take (l : List ByteArray) (k : Nat) (h : k < l.length) : strSz (l.take (k + 1)) = strSz (l.take k) + (l[k]).size := by
  simp only [strSz, List.map_take]; rw [sum_take_succ _ _ (by simpa using h)]; simp
theorem strSz_le (l : List ByteArray) (k : Nat) : strSz (l.take k) ≤ strSz l := by
  simp only [strSz, List.map_take]; exact sum_take_le _ _
inductive Core where | mk (Kind : Int) (Value : Int) (Data : List Int) (Kids : List Core)
mutual
def Core.ds : Core → List D
  | .mk x0 x1 x2 x3 => [I x0, I x1, ints x2, .sl 4 (Core.dsL x3)]
def Core.dsL : List Core → List (List D)
  | [] => []
  | c :: cs => c.ds :: Core.dsL cs
end
mutual
def Core.sz : Core → Nat
  | .mk x0 x1 x2 x3 => x2.length + (x3.length + Core.szS x3)
def Core.szS : List Core → Nat
  | [] => 0
  | c :: cs => c.sz + Core.szS cs
end
mutual
def Core.ok : Core → Prop
  | .mk x0 x1 x2 x3 => x2.length ≤ maxLen ∧ x3.length ≤ maxLen ∧ Core.okS x3
def Core.okS : List Core → Prop
  | [] => True
  | c :: cs => c.ok ∧ Core.okS cs
end
theorem Core.dsL_eq : ∀ l : List Core, Core.dsL l = l.map Core.ds
  | [] => rfl
  | c :: cs => by rw [Core.dsL, Core.dsL_eq cs]; rfl
theorem Core.szS_eq : ∀ l : List Core, Core.szS l = (l.map Core.sz).sum
  | [] => rfl
  | c :: cs => by rw [Core.szS, Core.szS_eq cs]; simp
theorem Core.okS_mem : ∀ {l : List Core}, Core.okS l → ∀ c ∈ l, c.ok
  | [], _, c, h => by cases h
  | d :: cs, h, c, hc => by
    rw [Core.okS] at h
    rcases List.mem_cons.1 hc with e | hc
    · rw [e]; exact h.1
    · exact Core.okS_mem h.2 c hc
def Core.sl (l : List Core) : D := .sl 4 (Core.dsL l)
theorem Core.ds_len (x : Core) : x.ds.length = 4 := by cases x; simp [Core.ds]
theorem Core.dsL_len (l : List Core) : (Core.dsL l).length = l.length := by rw [Core.dsL_eq]; simp
theorem Core.dsL_get (l : List Core) (k : Nat) (h : k < l.length) : (Core.dsL l)[k]? = some (l[k]).ds := by rw [Core.dsL_eq]; simp [h]
theorem Core.szS_take (l : List Core) (k : Nat) (h : k < l.length) : Core.szS (l.take (k + 1)) = Core.szS (l.take k) + (l[k]).sz := by
  simp only [Core.szS_eq, List.map_take]; rw [sum_take_succ _ _ (by simpa using h)]; simp
theorem Core.szS_le (l : List Core) (k : Nat) : Core.szS (l.take k) ≤ Core.szS l := by
  simp only [Core.szS_eq, List.map_take]; exact sum_take_le _ _
mutual
theorem Core.cl : ∀ (x : Core), ∀ d ∈ x.ds, Cl d
  | .mk x0 x1 x2 x3 => by simp only [Core.ds, List.forall_mem_append, List.forall_mem_cons, List.not_mem_nil, false_implies, implies_true, and_true, true_and]; (repeat' apply And.intro) <;> first | exact cl_sc _ | exact cl_ints _ | exact cl_strs _ | exact cl_bools _ | exact Cl.sl' (Core.clL x3)
theorem Core.clL : ∀ (l : List Core), ∀ r ∈ Core.dsL l, ∀ d ∈ r, Cl d
  | [] => by simp [Core.dsL]
  | c :: cs => by simp only [Core.dsL, List.forall_mem_cons]; exact ⟨Core.cl c, Core.clL cs⟩
end
theorem Core.sz_mem {x : Core} {l : List Core} (h : x ∈ l) : x.sz ≤ Core.szS l := by
  rw [Core.szS_eq]; exact mem_le_sum (List.mem_map.2 ⟨x, h, rfl⟩)
theorem Core.one (x : Core) : ∀ d ∈ x.ds, oneD d = true := by
  cases x
  simp only [Core.ds, List.forall_mem_append, List.forall_mem_cons, List.not_mem_nil, false_implies, implies_true, and_true, true_and]; (repeat' apply And.intro) <;> first | rfl
@[simp] theorem Core.cl_sl (l : List Core) : Cl (Core.sl l) := Cl.sl' (Core.clL l)
theorem Core.rows_len (l : List Core) : ∀ r ∈ Core.dsL l, r.length = 4 := by
  intro r hr; rw [Core.dsL_eq, List.mem_map] at hr; obtain ⟨x, _, rfl⟩ := hr; exact Core.ds_len x
inductive CacheEntry where | mk (Key : ByteArray) (Result : Core) (Counts : List Int) (Used : Int)
def CacheEntry.ds : CacheEntry → List D
  | .mk x0 x1 x2 x3 => [S x0] ++ x1.ds ++ [ints x2, I x3]
def CacheEntry.dsL (l : List CacheEntry) : List (List D) := l.map CacheEntry.ds
def CacheEntry.sz : CacheEntry → Nat
  | .mk x0 x1 x2 x3 => x0.size + x1.sz + x2.length
def CacheEntry.szS (l : List CacheEntry) : Nat := (l.map CacheEntry.sz).sum
def CacheEntry.ok : CacheEntry → Prop
  | .mk x0 x1 x2 x3 => x0.size ≤ maxLen ∧ x1.ok ∧ x2.length ≤ maxLen
def CacheEntry.okS (l : List CacheEntry) : Prop := ∀ c ∈ l, c.ok
theorem CacheEntry.dsL_eq (l : List CacheEntry) : CacheEntry.dsL l = l.map CacheEntry.ds := rfl
theorem CacheEntry.szS_eq (l : List CacheEntry) : CacheEntry.szS l = (l.map CacheEntry.sz).sum := rfl
theorem CacheEntry.okS_mem {l : List CacheEntry} (h : CacheEntry.okS l) : ∀ c ∈ l, c.ok := h
def CacheEntry.sl (l : List CacheEntry) : D := .sl 7 (CacheEntry.dsL l)
theorem CacheEntry.ds_len (x : CacheEntry) : x.ds.length = 7 := by cases x; simp [CacheEntry.ds, Core.ds_len]
theorem CacheEntry.dsL_len (l : List CacheEntry) : (CacheEntry.dsL l).length = l.length := by rw [CacheEntry.dsL_eq]; simp
theorem CacheEntry.dsL_get (l : List CacheEntry) (k : Nat) (h : k < l.length) : (CacheEntry.dsL l)[k]? = some (l[k]).ds := by rw [CacheEntry.dsL_eq]; simp [h]
theorem CacheEntry.szS_take (l : List CacheEntry) (k : Nat) (h : k < l.length) : CacheEntry.szS (l.take (k + 1)) = CacheEntry.szS (l.take k) + (l[k]).sz := by
  simp only [CacheEntry.szS_eq, List.map_take]; rw [sum_take_succ _ _ (by simpa using h)]; simp
theorem CacheEntry.szS_le (l : List CacheEntry) (k : Nat) : CacheEntry.szS (l.take k) ≤ CacheEntry.szS l := by
  simp only [CacheEntry.szS_eq, List.map_take]; exact sum_take_le _ _
theorem CacheEntry.cl (x : CacheEntry) : ∀ d ∈ x.ds, Cl d := by
  cases x
  simp only [CacheEntry.ds, List.forall_mem_append, List.forall_mem_cons, List.not_mem_nil, false_implies, implies_true, and_true, true_and]; (repeat' apply And.intro) <;> first | exact cl_sc _ | exact cl_ints _ | exact cl_strs _ | exact cl_bools _ | exact Core.cl _
theorem CacheEntry.clL (l : List CacheEntry) : ∀ r ∈ CacheEntry.dsL l, ∀ d ∈ r, Cl d := by
  intro r hr d hd
  rw [CacheEntry.dsL_eq, List.mem_map] at hr
  obtain ⟨x, _, rfl⟩ := hr
  exact CacheEntry.cl x d hd
theorem CacheEntry.sz_mem {x : CacheEntry} {l : List CacheEntry} (h : x ∈ l) : x.sz ≤ CacheEntry.szS l := by
  rw [CacheEntry.szS_eq]; exact mem_le_sum (List.mem_map.2 ⟨x, h, rfl⟩)
theorem CacheEntry.one (x : CacheEntry) : ∀ d ∈ x.ds, oneD d = true := by
  cases x
  simp only [CacheEntry.ds, List.forall_mem_append, List.forall_mem_cons, List.not_mem_nil, false_implies, implies_true, and_true, true_and]; (repeat' apply And.intro) <;> first | rfl | exact Core.one _
@[simp] theorem CacheEntry.cl_sl (l : List CacheEntry) : Cl (CacheEntry.sl l) := Cl.sl' (CacheEntry.clL l)
theorem CacheEntry.rows_len (l : List CacheEntry) : ∀ r ∈ CacheEntry.dsL l, r.length = 7 := by
  intro r hr; rw [CacheEntry.dsL_eq, List.mem_map] at hr; obtain ⟨x, _, rfl⟩ := hr; exact CacheEntry.ds_len x
inductive Cache where | mk (Size : Int) (Clock : Int) (Entries : List CacheEntry)
def Cache.ds : Cache → List D
  | .mk x0 x1 x2 => [I x0, I x1, CacheEntry.sl x2]
def Cache.dsL (l : List Cache) : List (List D) := l.map Cache.ds
def Cache.sz : Cache → Nat
  | .mk x0 x1 x2 => (x2.length + CacheEntry.szS x2)
def Cache.szS (l : List Cache) : Nat := (l.map Cache.sz).sum
def Cache.ok : Cache → Prop
  | .mk x0 x1 x2 => x2.length ≤ maxLen ∧ CacheEntry.okS x2
def Cache.okS (l : List Cache) : Prop := ∀ c ∈ l, c.ok
theorem Cache.dsL_eq (l : List Cache) : Cache.dsL l = l.map Cache.ds := rfl
theorem Cache.szS_eq (l : List Cache) : Cache.szS l = (l.map Cache.sz).sum := rfl
theorem Cache.okS_mem {l : List Cache} (h : Cache.okS l) : ∀ c ∈ l, c.ok := h
def Cache.sl (l : List Cache) : D := .sl 3 (Cache.dsL l)
theorem Cache.ds_len (x : Cache) : x.ds.length = 3 := by cases x; simp [Cache.ds]
theorem Cache.dsL_len (l : List Cache) : (Cache.dsL l).length = l.length := by rw [Cache.dsL_eq]; simp
theorem Cache.dsL_get (l : List Cache) (k : Nat) (h : k < l.length) : (Cache.dsL l)[k]? = some (l[k]).ds := by rw [Cache.dsL_eq]; simp [h]
theorem Cache.szS_take (l : List Cache) (k : Nat) (h : k < l.length) : Cache.szS (l.take (k + 1)) = Cache.szS (l.take k) + (l[k]).sz := by
  simp only [Cache.szS_eq, List.map_take]; rw [sum_take_succ _ _ (by simpa using h)]; simp
theorem Cache.szS_le (l : List Cache) (k : Nat) : Cache.szS (l.take k) ≤ Cache.szS l := by
  simp only [Cache.szS_eq, List.map_take]; exact sum_take_le _ _
theorem Cache.cl (x : Cache) : ∀ d ∈ x.ds, Cl d := by
  cases x
  simp only [Cache.ds, List.forall_mem_append, List.forall_mem_cons, List.not_mem_nil, false_implies, implies_true, and_true, true_and]; (repeat' apply And.intro) <;> first | exact cl_sc _ | exact cl_ints _ | exact cl_strs _ | exact cl_bools _ | exact CacheEntry.cl_sl _
theorem Cache.clL (l : List Cache) : ∀ r ∈ Cache.dsL l, ∀ d ∈ r, Cl d := by
  intro r hr d hd
  rw [Cache.dsL_eq, List.mem_map] at hr
  obtain ⟨x, _, rfl⟩ := hr
  exact Cache.cl x d hd
theorem Cache.sz_mem {x : Cache} {l : List Cache} (h : x ∈ l) : x.sz ≤ Cache.szS l := by
  rw [Cache.szS_eq]; exact mem_le_sum (List.mem_map.2 ⟨x, h, rfl⟩)
theorem Cache.one (x : Cache) : ∀ d ∈ x.ds, oneD d = true := by
  cases x
  simp only [Cache.ds, List.forall_mem_append, List.forall_mem_cons, List.not_mem_nil, false_implies, implies_true, and_true, true_and]; (repeat' apply And.intro) <;> first | rfl
@[simp] theorem Cache.cl_sl (l : List Cache) : Cl (Cache.sl l) := Cl.sl' (Cache.clL l)
theorem Cache.rows_len (l : List Cache) : ∀ r ∈ Cache.dsL l, r.length = 3 := by
  intro r hr; rw [Cache.dsL_eq, List.mem_map] at hr; obtain ⟨x, _, rfl⟩ := hr; exact Cache.ds_len x
end Go.Fw
