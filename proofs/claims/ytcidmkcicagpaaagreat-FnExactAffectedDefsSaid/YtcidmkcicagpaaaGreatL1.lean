/-
  The types of the program's data as plain inductive types, their cells and sizes. No condition.
-/
import Derived.Test.YtcidmkcicagpaaaGreatFw4
namespace Go.Fw
set_option linter.unusedVariables false
set_option linter.unusedSimpArgs false
def bools (l : List Bool) : D := .sl 1 (l.map fun b => [B b])
@[simp] theorem cl_bools (l : List Bool) : Cl (bools l) := by
  simp only [bools, cl_sl, List.mem_map]; rintro r ⟨b, _, rfl⟩ d hd; simp at hd; subst hd; exact .sc _
def strSz (l : List ByteArray) : Nat := (l.map ByteArray.size).sum
def sumSz (l : List Nat) : Nat := l.sum
theorem mem_le_sum : ∀ {l : List Nat} {n : Nat}, n ∈ l → n ≤ l.sum
  | [], _, h => by cases h
  | a :: l, n, h => by
    rw [List.sum_cons]
    rcases List.mem_cons.1 h with e | h
    · omega
    · have := mem_le_sum h; omega
theorem sum_take_le (l : List Nat) (k : Nat) : (l.take k).sum ≤ l.sum := by
  conv => rhs; rw [← List.take_append_drop k l, List.sum_append]
  omega
theorem sum_take_succ (l : List Nat) (k : Nat) (h : k < l.length) : (l.take (k + 1)).sum = (l.take k).sum + l[k] := by
  rw [List.take_succ_eq_append_getElem h, List.sum_append]; simp
def szF (n : Nat) (left : Int) : Int := if (n : Int) ≤ left then left - n else -1
theorem szF_pos {n : Nat} {left : Int} (h : (n : Int) ≤ left) : szF n left = left - n := if_pos h
theorem szF_neg {n : Nat} {left : Int} (h : ¬ (n : Int) ≤ left) : szF n left = -1 := if_neg h
theorem strSz_take (l : List ByteArray) (k : Nat) (h : k < l.length) : strSz (l.take (k + 1)) = strSz (l.take k) + (l[k]).size := by
  simp only [strSz, List.map_take]; rw [sum_take_succ _ _ (by simpa using h)]; simp
theorem strSz_le (l : List ByteArray) (k : Nat) : strSz (l.take k) ≤ strSz l := by
  simp only [strSz, List.map_take]; exact sum_take_le _ _
inductive Typ where | mk (Kind : Int) (Name : ByteArray) (Kids : List Typ)
mutual
def Typ.ds : Typ → List D
  | .mk x0 x1 x2 => [I x0, S x1, .sl 3 (Typ.dsL x2)]
def Typ.dsL : List Typ → List (List D)
  | [] => []
  | c :: cs => c.ds :: Typ.dsL cs
end
mutual
def Typ.sz : Typ → Nat
  | .mk x0 x1 x2 => x1.size + (x2.length + Typ.szS x2)
def Typ.szS : List Typ → Nat
  | [] => 0
  | c :: cs => c.sz + Typ.szS cs
end
mutual
def Typ.ok : Typ → Prop
  | .mk x0 x1 x2 => x1.size ≤ maxLen ∧ x2.length ≤ maxLen ∧ Typ.okS x2
def Typ.okS : List Typ → Prop
  | [] => True
  | c :: cs => c.ok ∧ Typ.okS cs
end
theorem Typ.dsL_eq : ∀ l : List Typ, Typ.dsL l = l.map Typ.ds
  | [] => rfl
  | c :: cs => by rw [Typ.dsL, Typ.dsL_eq cs]; rfl
theorem Typ.szS_eq : ∀ l : List Typ, Typ.szS l = (l.map Typ.sz).sum
  | [] => rfl
  | c :: cs => by rw [Typ.szS, Typ.szS_eq cs]; simp
theorem Typ.okS_mem : ∀ {l : List Typ}, Typ.okS l → ∀ c ∈ l, c.ok
  | [], _, c, h => by cases h
  | d :: cs, h, c, hc => by
    rw [Typ.okS] at h
    rcases List.mem_cons.1 hc with e | hc
    · rw [e]; exact h.1
    · exact Typ.okS_mem h.2 c hc
def Typ.sl (l : List Typ) : D := .sl 3 (Typ.dsL l)
theorem Typ.ds_len (x : Typ) : x.ds.length = 3 := by cases x; simp [Typ.ds]
theorem Typ.dsL_len (l : List Typ) : (Typ.dsL l).length = l.length := by rw [Typ.dsL_eq]; simp
theorem Typ.dsL_get (l : List Typ) (k : Nat) (h : k < l.length) : (Typ.dsL l)[k]? = some (l[k]).ds := by rw [Typ.dsL_eq]; simp [h]
theorem Typ.szS_take (l : List Typ) (k : Nat) (h : k < l.length) : Typ.szS (l.take (k + 1)) = Typ.szS (l.take k) + (l[k]).sz := by
  simp only [Typ.szS_eq, List.map_take]; rw [sum_take_succ _ _ (by simpa using h)]; simp
theorem Typ.szS_le (l : List Typ) (k : Nat) : Typ.szS (l.take k) ≤ Typ.szS l := by
  simp only [Typ.szS_eq, List.map_take]; exact sum_take_le _ _
mutual
theorem Typ.cl : ∀ (x : Typ), ∀ d ∈ x.ds, Cl d
  | .mk x0 x1 x2 => by simp only [Typ.ds, List.forall_mem_append, List.forall_mem_cons, List.not_mem_nil, false_implies, implies_true, and_true, true_and]; (repeat' apply And.intro) <;> first | exact cl_sc _ | exact cl_ints _ | exact cl_strs _ | exact cl_bools _ | exact Cl.sl' (Typ.clL x2)
theorem Typ.clL : ∀ (l : List Typ), ∀ r ∈ Typ.dsL l, ∀ d ∈ r, Cl d
  | [] => by simp [Typ.dsL]
  | c :: cs => by simp only [Typ.dsL, List.forall_mem_cons]; exact ⟨Typ.cl c, Typ.clL cs⟩
end
theorem Typ.sz_mem {x : Typ} {l : List Typ} (h : x ∈ l) : x.sz ≤ Typ.szS l := by
  rw [Typ.szS_eq]; exact mem_le_sum (List.mem_map.2 ⟨x, h, rfl⟩)
theorem Typ.one (x : Typ) : ∀ d ∈ x.ds, oneD d = true := by
  cases x
  simp only [Typ.ds, List.forall_mem_append, List.forall_mem_cons, List.not_mem_nil, false_implies, implies_true, and_true, true_and]; (repeat' apply And.intro) <;> first | rfl
@[simp] theorem Typ.cl_sl (l : List Typ) : Cl (Typ.sl l) := Cl.sl' (Typ.clL l)
theorem Typ.rows_len (l : List Typ) : ∀ r ∈ Typ.dsL l, r.length = 3 := by
  intro r hr; rw [Typ.dsL_eq, List.mem_map] at hr; obtain ⟨x, _, rfl⟩ := hr; exact Typ.ds_len x
inductive Constructor where | mk (Name : ByteArray) (Fields : List Typ)
def Constructor.ds : Constructor → List D
  | .mk x0 x1 => [S x0, Typ.sl x1]
def Constructor.dsL (l : List Constructor) : List (List D) := l.map Constructor.ds
def Constructor.sz : Constructor → Nat
  | .mk x0 x1 => x0.size + (x1.length + Typ.szS x1)
def Constructor.szS (l : List Constructor) : Nat := (l.map Constructor.sz).sum
def Constructor.ok : Constructor → Prop
  | .mk x0 x1 => x0.size ≤ maxLen ∧ x1.length ≤ maxLen ∧ Typ.okS x1
def Constructor.okS (l : List Constructor) : Prop := ∀ c ∈ l, c.ok
theorem Constructor.dsL_eq (l : List Constructor) : Constructor.dsL l = l.map Constructor.ds := rfl
theorem Constructor.szS_eq (l : List Constructor) : Constructor.szS l = (l.map Constructor.sz).sum := rfl
theorem Constructor.okS_mem {l : List Constructor} (h : Constructor.okS l) : ∀ c ∈ l, c.ok := h
def Constructor.sl (l : List Constructor) : D := .sl 2 (Constructor.dsL l)
theorem Constructor.ds_len (x : Constructor) : x.ds.length = 2 := by cases x; simp [Constructor.ds]
theorem Constructor.dsL_len (l : List Constructor) : (Constructor.dsL l).length = l.length := by rw [Constructor.dsL_eq]; simp
theorem Constructor.dsL_get (l : List Constructor) (k : Nat) (h : k < l.length) : (Constructor.dsL l)[k]? = some (l[k]).ds := by rw [Constructor.dsL_eq]; simp [h]
theorem Constructor.szS_take (l : List Constructor) (k : Nat) (h : k < l.length) : Constructor.szS (l.take (k + 1)) = Constructor.szS (l.take k) + (l[k]).sz := by
  simp only [Constructor.szS_eq, List.map_take]; rw [sum_take_succ _ _ (by simpa using h)]; simp
theorem Constructor.szS_le (l : List Constructor) (k : Nat) : Constructor.szS (l.take k) ≤ Constructor.szS l := by
  simp only [Constructor.szS_eq, List.map_take]; exact sum_take_le _ _
theorem Constructor.cl (x : Constructor) : ∀ d ∈ x.ds, Cl d := by
  cases x
  simp only [Constructor.ds, List.forall_mem_append, List.forall_mem_cons, List.not_mem_nil, false_implies, implies_true, and_true, true_and]; (repeat' apply And.intro) <;> first | exact cl_sc _ | exact cl_ints _ | exact cl_strs _ | exact cl_bools _ | exact Typ.cl_sl _
theorem Constructor.clL (l : List Constructor) : ∀ r ∈ Constructor.dsL l, ∀ d ∈ r, Cl d := by
  intro r hr d hd
  rw [Constructor.dsL_eq, List.mem_map] at hr
  obtain ⟨x, _, rfl⟩ := hr
  exact Constructor.cl x d hd
theorem Constructor.sz_mem {x : Constructor} {l : List Constructor} (h : x ∈ l) : x.sz ≤ Constructor.szS l := by
  rw [Constructor.szS_eq]; exact mem_le_sum (List.mem_map.2 ⟨x, h, rfl⟩)
theorem Constructor.one (x : Constructor) : ∀ d ∈ x.ds, oneD d = true := by
  cases x
  simp only [Constructor.ds, List.forall_mem_append, List.forall_mem_cons, List.not_mem_nil, false_implies, implies_true, and_true, true_and]; (repeat' apply And.intro) <;> first | rfl
@[simp] theorem Constructor.cl_sl (l : List Constructor) : Cl (Constructor.sl l) := Cl.sl' (Constructor.clL l)
theorem Constructor.rows_len (l : List Constructor) : ∀ r ∈ Constructor.dsL l, r.length = 2 := by
  intro r hr; rw [Constructor.dsL_eq, List.mem_map] at hr; obtain ⟨x, _, rfl⟩ := hr; exact Constructor.ds_len x
inductive Dat where | mk (Name : ByteArray) (Cons : List Constructor)
def Dat.ds : Dat → List D
  | .mk x0 x1 => [S x0, Constructor.sl x1]
def Dat.dsL (l : List Dat) : List (List D) := l.map Dat.ds
def Dat.sz : Dat → Nat
  | .mk x0 x1 => x0.size + (x1.length + Constructor.szS x1)
def Dat.szS (l : List Dat) : Nat := (l.map Dat.sz).sum
def Dat.ok : Dat → Prop
  | .mk x0 x1 => x0.size ≤ maxLen ∧ x1.length ≤ maxLen ∧ Constructor.okS x1
def Dat.okS (l : List Dat) : Prop := ∀ c ∈ l, c.ok
theorem Dat.dsL_eq (l : List Dat) : Dat.dsL l = l.map Dat.ds := rfl
theorem Dat.szS_eq (l : List Dat) : Dat.szS l = (l.map Dat.sz).sum := rfl
theorem Dat.okS_mem {l : List Dat} (h : Dat.okS l) : ∀ c ∈ l, c.ok := h
def Dat.sl (l : List Dat) : D := .sl 2 (Dat.dsL l)
theorem Dat.ds_len (x : Dat) : x.ds.length = 2 := by cases x; simp [Dat.ds]
theorem Dat.dsL_len (l : List Dat) : (Dat.dsL l).length = l.length := by rw [Dat.dsL_eq]; simp
theorem Dat.dsL_get (l : List Dat) (k : Nat) (h : k < l.length) : (Dat.dsL l)[k]? = some (l[k]).ds := by rw [Dat.dsL_eq]; simp [h]
theorem Dat.szS_take (l : List Dat) (k : Nat) (h : k < l.length) : Dat.szS (l.take (k + 1)) = Dat.szS (l.take k) + (l[k]).sz := by
  simp only [Dat.szS_eq, List.map_take]; rw [sum_take_succ _ _ (by simpa using h)]; simp
theorem Dat.szS_le (l : List Dat) (k : Nat) : Dat.szS (l.take k) ≤ Dat.szS l := by
  simp only [Dat.szS_eq, List.map_take]; exact sum_take_le _ _
theorem Dat.cl (x : Dat) : ∀ d ∈ x.ds, Cl d := by
  cases x
  simp only [Dat.ds, List.forall_mem_append, List.forall_mem_cons, List.not_mem_nil, false_implies, implies_true, and_true, true_and]; (repeat' apply And.intro) <;> first | exact cl_sc _ | exact cl_ints _ | exact cl_strs _ | exact cl_bools _ | exact Constructor.cl_sl _
theorem Dat.clL (l : List Dat) : ∀ r ∈ Dat.dsL l, ∀ d ∈ r, Cl d := by
  intro r hr d hd
  rw [Dat.dsL_eq, List.mem_map] at hr
  obtain ⟨x, _, rfl⟩ := hr
  exact Dat.cl x d hd
theorem Dat.sz_mem {x : Dat} {l : List Dat} (h : x ∈ l) : x.sz ≤ Dat.szS l := by
  rw [Dat.szS_eq]; exact mem_le_sum (List.mem_map.2 ⟨x, h, rfl⟩)
theorem Dat.one (x : Dat) : ∀ d ∈ x.ds, oneD d = true := by
  cases x
  simp only [Dat.ds, List.forall_mem_append, List.forall_mem_cons, List.not_mem_nil, false_implies, implies_true, and_true, true_and]; (repeat' apply And.intro) <;> first | rfl
@[simp] theorem Dat.cl_sl (l : List Dat) : Cl (Dat.sl l) := Cl.sl' (Dat.clL l)
theorem Dat.rows_len (l : List Dat) : ∀ r ∈ Dat.dsL l, r.length = 2 := by
  intro r hr; rw [Dat.dsL_eq, List.mem_map] at hr; obtain ⟨x, _, rfl⟩ := hr; exact Dat.ds_len x
inductive Term where | mk (Kind : Int) (Num : Int) (Name : ByteArray) (Typ : Typ) (Names : List ByteArray) (Kids : List Term)
mutual
def Term.ds : Term → List D
  | .mk x0 x1 x2 x3 x4 x5 => [I x0, I x1, S x2] ++ x3.ds ++ [strs x4, .sl 8 (Term.dsL x5)]
def Term.dsL : List Term → List (List D)
  | [] => []
  | c :: cs => c.ds :: Term.dsL cs
end
mutual
def Term.sz : Term → Nat
  | .mk x0 x1 x2 x3 x4 x5 => x2.size + x3.sz + (x4.length + strSz x4) + (x5.length + Term.szS x5)
def Term.szS : List Term → Nat
  | [] => 0
  | c :: cs => c.sz + Term.szS cs
end
mutual
def Term.ok : Term → Prop
  | .mk x0 x1 x2 x3 x4 x5 => x2.size ≤ maxLen ∧ x3.ok ∧ x4.length ≤ maxLen ∧ (∀ s ∈ x4, ByteArray.size s ≤ maxLen) ∧ x5.length ≤ maxLen ∧ Term.okS x5
def Term.okS : List Term → Prop
  | [] => True
  | c :: cs => c.ok ∧ Term.okS cs
end
theorem Term.dsL_eq : ∀ l : List Term, Term.dsL l = l.map Term.ds
  | [] => rfl
  | c :: cs => by rw [Term.dsL, Term.dsL_eq cs]; rfl
theorem Term.szS_eq : ∀ l : List Term, Term.szS l = (l.map Term.sz).sum
  | [] => rfl
  | c :: cs => by rw [Term.szS, Term.szS_eq cs]; simp
theorem Term.okS_mem : ∀ {l : List Term}, Term.okS l → ∀ c ∈ l, c.ok
  | [], _, c, h => by cases h
  | d :: cs, h, c, hc => by
    rw [Term.okS] at h
    rcases List.mem_cons.1 hc with e | hc
    · rw [e]; exact h.1
    · exact Term.okS_mem h.2 c hc
def Term.sl (l : List Term) : D := .sl 8 (Term.dsL l)
theorem Term.ds_len (x : Term) : x.ds.length = 8 := by cases x; simp [Term.ds, Typ.ds_len]
theorem Term.dsL_len (l : List Term) : (Term.dsL l).length = l.length := by rw [Term.dsL_eq]; simp
theorem Term.dsL_get (l : List Term) (k : Nat) (h : k < l.length) : (Term.dsL l)[k]? = some (l[k]).ds := by rw [Term.dsL_eq]; simp [h]
theorem Term.szS_take (l : List Term) (k : Nat) (h : k < l.length) : Term.szS (l.take (k + 1)) = Term.szS (l.take k) + (l[k]).sz := by
  simp only [Term.szS_eq, List.map_take]; rw [sum_take_succ _ _ (by simpa using h)]; simp
theorem Term.szS_le (l : List Term) (k : Nat) : Term.szS (l.take k) ≤ Term.szS l := by
  simp only [Term.szS_eq, List.map_take]; exact sum_take_le _ _
mutual
theorem Term.cl : ∀ (x : Term), ∀ d ∈ x.ds, Cl d
  | .mk x0 x1 x2 x3 x4 x5 => by simp only [Term.ds, List.forall_mem_append, List.forall_mem_cons, List.not_mem_nil, false_implies, implies_true, and_true, true_and]; (repeat' apply And.intro) <;> first | exact cl_sc _ | exact cl_ints _ | exact cl_strs _ | exact cl_bools _ | exact Typ.cl _ | exact Cl.sl' (Term.clL x5)
theorem Term.clL : ∀ (l : List Term), ∀ r ∈ Term.dsL l, ∀ d ∈ r, Cl d
  | [] => by simp [Term.dsL]
  | c :: cs => by simp only [Term.dsL, List.forall_mem_cons]; exact ⟨Term.cl c, Term.clL cs⟩
end
theorem Term.sz_mem {x : Term} {l : List Term} (h : x ∈ l) : x.sz ≤ Term.szS l := by
  rw [Term.szS_eq]; exact mem_le_sum (List.mem_map.2 ⟨x, h, rfl⟩)
theorem Term.one (x : Term) : ∀ d ∈ x.ds, oneD d = true := by
  cases x
  simp only [Term.ds, List.forall_mem_append, List.forall_mem_cons, List.not_mem_nil, false_implies, implies_true, and_true, true_and]; (repeat' apply And.intro) <;> first | rfl | exact Typ.one _
@[simp] theorem Term.cl_sl (l : List Term) : Cl (Term.sl l) := Cl.sl' (Term.clL l)
theorem Term.rows_len (l : List Term) : ∀ r ∈ Term.dsL l, r.length = 8 := by
  intro r hr; rw [Term.dsL_eq, List.mem_map] at hr; obtain ⟨x, _, rfl⟩ := hr; exact Term.ds_len x
inductive Def where | mk (Name : ByteArray) (Typ : Typ) (Body : Term)
def Def.ds : Def → List D
  | .mk x0 x1 x2 => [S x0] ++ x1.ds ++ x2.ds
def Def.dsL (l : List Def) : List (List D) := l.map Def.ds
def Def.sz : Def → Nat
  | .mk x0 x1 x2 => x0.size + x1.sz + x2.sz
def Def.szS (l : List Def) : Nat := (l.map Def.sz).sum
def Def.ok : Def → Prop
  | .mk x0 x1 x2 => x0.size ≤ maxLen ∧ x1.ok ∧ x2.ok
def Def.okS (l : List Def) : Prop := ∀ c ∈ l, c.ok
theorem Def.dsL_eq (l : List Def) : Def.dsL l = l.map Def.ds := rfl
theorem Def.szS_eq (l : List Def) : Def.szS l = (l.map Def.sz).sum := rfl
theorem Def.okS_mem {l : List Def} (h : Def.okS l) : ∀ c ∈ l, c.ok := h
def Def.sl (l : List Def) : D := .sl 12 (Def.dsL l)
theorem Def.ds_len (x : Def) : x.ds.length = 12 := by cases x; simp [Def.ds, Typ.ds_len, Term.ds_len]
theorem Def.dsL_len (l : List Def) : (Def.dsL l).length = l.length := by rw [Def.dsL_eq]; simp
theorem Def.dsL_get (l : List Def) (k : Nat) (h : k < l.length) : (Def.dsL l)[k]? = some (l[k]).ds := by rw [Def.dsL_eq]; simp [h]
theorem Def.szS_take (l : List Def) (k : Nat) (h : k < l.length) : Def.szS (l.take (k + 1)) = Def.szS (l.take k) + (l[k]).sz := by
  simp only [Def.szS_eq, List.map_take]; rw [sum_take_succ _ _ (by simpa using h)]; simp
theorem Def.szS_le (l : List Def) (k : Nat) : Def.szS (l.take k) ≤ Def.szS l := by
  simp only [Def.szS_eq, List.map_take]; exact sum_take_le _ _
theorem Def.cl (x : Def) : ∀ d ∈ x.ds, Cl d := by
  cases x
  simp only [Def.ds, List.forall_mem_append, List.forall_mem_cons, List.not_mem_nil, false_implies, implies_true, and_true, true_and]; (repeat' apply And.intro) <;> first | exact cl_sc _ | exact cl_ints _ | exact cl_strs _ | exact cl_bools _ | exact Term.cl _ | exact Typ.cl _
theorem Def.clL (l : List Def) : ∀ r ∈ Def.dsL l, ∀ d ∈ r, Cl d := by
  intro r hr d hd
  rw [Def.dsL_eq, List.mem_map] at hr
  obtain ⟨x, _, rfl⟩ := hr
  exact Def.cl x d hd
theorem Def.sz_mem {x : Def} {l : List Def} (h : x ∈ l) : x.sz ≤ Def.szS l := by
  rw [Def.szS_eq]; exact mem_le_sum (List.mem_map.2 ⟨x, h, rfl⟩)
theorem Def.one (x : Def) : ∀ d ∈ x.ds, oneD d = true := by
  cases x
  simp only [Def.ds, List.forall_mem_append, List.forall_mem_cons, List.not_mem_nil, false_implies, implies_true, and_true, true_and]; (repeat' apply And.intro) <;> first | rfl | exact Term.one _ | exact Typ.one _
@[simp] theorem Def.cl_sl (l : List Def) : Cl (Def.sl l) := Cl.sl' (Def.clL l)
theorem Def.rows_len (l : List Def) : ∀ r ∈ Def.dsL l, r.length = 12 := by
  intro r hr; rw [Def.dsL_eq, List.mem_map] at hr; obtain ⟨x, _, rfl⟩ := hr; exact Def.ds_len x
inductive Prg where | mk (Datas : List Dat) (Defs : List Def)
def Prg.ds : Prg → List D
  | .mk x0 x1 => [Dat.sl x0, Def.sl x1]
def Prg.dsL (l : List Prg) : List (List D) := l.map Prg.ds
def Prg.sz : Prg → Nat
  | .mk x0 x1 => (x0.length + Dat.szS x0) + (x1.length + Def.szS x1)
def Prg.szS (l : List Prg) : Nat := (l.map Prg.sz).sum
def Prg.ok : Prg → Prop
  | .mk x0 x1 => x0.length ≤ maxLen ∧ Dat.okS x0 ∧ x1.length ≤ maxLen ∧ Def.okS x1
def Prg.okS (l : List Prg) : Prop := ∀ c ∈ l, c.ok
theorem Prg.dsL_eq (l : List Prg) : Prg.dsL l = l.map Prg.ds := rfl
theorem Prg.szS_eq (l : List Prg) : Prg.szS l = (l.map Prg.sz).sum := rfl
theorem Prg.okS_mem {l : List Prg} (h : Prg.okS l) : ∀ c ∈ l, c.ok := h
def Prg.sl (l : List Prg) : D := .sl 2 (Prg.dsL l)
theorem Prg.ds_len (x : Prg) : x.ds.length = 2 := by cases x; simp [Prg.ds]
theorem Prg.dsL_len (l : List Prg) : (Prg.dsL l).length = l.length := by rw [Prg.dsL_eq]; simp
theorem Prg.dsL_get (l : List Prg) (k : Nat) (h : k < l.length) : (Prg.dsL l)[k]? = some (l[k]).ds := by rw [Prg.dsL_eq]; simp [h]
theorem Prg.szS_take (l : List Prg) (k : Nat) (h : k < l.length) : Prg.szS (l.take (k + 1)) = Prg.szS (l.take k) + (l[k]).sz := by
  simp only [Prg.szS_eq, List.map_take]; rw [sum_take_succ _ _ (by simpa using h)]; simp
theorem Prg.szS_le (l : List Prg) (k : Nat) : Prg.szS (l.take k) ≤ Prg.szS l := by
  simp only [Prg.szS_eq, List.map_take]; exact sum_take_le _ _
theorem Prg.cl (x : Prg) : ∀ d ∈ x.ds, Cl d := by
  cases x
  simp only [Prg.ds, List.forall_mem_append, List.forall_mem_cons, List.not_mem_nil, false_implies, implies_true, and_true, true_and]; (repeat' apply And.intro) <;> first | exact cl_sc _ | exact cl_ints _ | exact cl_strs _ | exact cl_bools _ | exact Dat.cl_sl _ | exact Def.cl_sl _
theorem Prg.clL (l : List Prg) : ∀ r ∈ Prg.dsL l, ∀ d ∈ r, Cl d := by
  intro r hr d hd
  rw [Prg.dsL_eq, List.mem_map] at hr
  obtain ⟨x, _, rfl⟩ := hr
  exact Prg.cl x d hd
theorem Prg.sz_mem {x : Prg} {l : List Prg} (h : x ∈ l) : x.sz ≤ Prg.szS l := by
  rw [Prg.szS_eq]; exact mem_le_sum (List.mem_map.2 ⟨x, h, rfl⟩)
theorem Prg.one (x : Prg) : ∀ d ∈ x.ds, oneD d = true := by
  cases x
  simp only [Prg.ds, List.forall_mem_append, List.forall_mem_cons, List.not_mem_nil, false_implies, implies_true, and_true, true_and]; (repeat' apply And.intro) <;> first | rfl
@[simp] theorem Prg.cl_sl (l : List Prg) : Cl (Prg.sl l) := Cl.sl' (Prg.clL l)
theorem Prg.rows_len (l : List Prg) : ∀ r ∈ Prg.dsL l, r.length = 2 := by
  intro r hr; rw [Prg.dsL_eq, List.mem_map] at hr; obtain ⟨x, _, rfl⟩ := hr; exact Prg.ds_len x
end Go.Fw
