/-
  Values without memory, and how they stand to the machine: a relation between data and cells, the plain operations, new and changed objects. No condition.
-/
import Derived.WalkKit
import Derived.Deep.Quiet
import Derived.Laws.AppendOwn
import Derived.Laws.MakeOwn
import Derived.Laws.Cover3
import Derived.KernelRfl
namespace Go.Fw
open Go.RowKit

/-- What a value stands for, with no memory in sight. -/
inductive D where
  | sc (v : Value)
  | sl (sz : Nat) (rows : List (List D))
  | ag (ds : List D)
  | tp (ds : List D)
  | cp (ds : List D)
  | rf (slot gen off : Nat)
  | ms (slot gen len : Nat)
  | mp (slot gen : Nat)
  | fn (f : FuncId) (first captured : List D)
  | any
instance : Inhabited D := ⟨.any⟩

/-- The cells that no one writes any more, and the blocks of the call's own objects. -/
structure View where
  C : Nat → Nat → Option Value
  g : Nat → Option (Nat × Nat × Nat)
  n : Nat → Nat

structure View.Ext (V V' : View) : Prop where
  c : ∀ b o u, V.C b o = some u → V'.C b o = some u
  n : ∀ s, V.n s ≤ V'.n s
  g : ∀ s x b c, x < V.n s → V'.g s = some (x, b, c) → V.g s = some (x, b, c)

theorem View.Ext.refl (V : View) : V.Ext V := ⟨fun _ _ _ h => h, fun _ => Nat.le_refl _, fun _ _ _ _ _ h => h⟩
theorem View.Ext.trans {V V' V'' : View} (h : V.Ext V') (k : V'.Ext V'') : V.Ext V'' :=
  ⟨fun b o u e => k.c b o u (h.c b o u e), fun s => Nat.le_trans (h.n s) (k.n s), fun s x b c hx e => h.g s x b c hx (k.g s x b c (Nat.lt_of_lt_of_le hx (h.n s)) e)⟩

inductive Rd (V : View) : D → Value → Prop
  | sc (v : Value) : Rd V (.sc v) v
  | any (v : Value) : Rd V .any v
  | nil (sz : Nat) : Rd V (.sl sz []) (.slice none 0 0)
  | emp (sz : Nat) (a : Addr) (cap : Nat) (hm : cap ≤ maxLen) : Rd V (.sl sz []) (.slice (some a) 0 cap)
  | sl (sz : Nat) (rows : List (List D)) (b o cap : Nat) (us : Nat → Nat → Value) (hc : rows.length ≤ cap) (hm : cap ≤ maxLen)
      (hl : ∀ (i : Nat) (r : List D), rows[i]? = some r → r.length = sz)
      (h1 : ∀ (i : Nat) (r : List D) (j : Nat) (d : D), rows[i]? = some r → r[j]? = some d → V.C b (o + i * sz + j) = some (us i j))
      (h2 : ∀ (i : Nat) (r : List D) (j : Nat) (d : D), rows[i]? = some r → r[j]? = some d → Rd V d (us i j)) :
      Rd V (.sl sz rows) (.slice (some ⟨b, o, none⟩) rows.length cap)
  | ag (ds : List D) (vs : List Value) (hl : ds.length = vs.length) (h : ∀ (i : Nat) (d : D) (v : Value), ds[i]? = some d → vs[i]? = some v → Rd V d v) : Rd V (.ag ds) (.agg vs.toArray)
  | tp (ds : List D) (vs : List Value) (hl : ds.length = vs.length) (h : ∀ (i : Nat) (d : D) (v : Value), ds[i]? = some d → vs[i]? = some v → Rd V d v) : Rd V (.tp ds) (.tuple vs.toArray)
  | cp (ds : List D) (b o : Nat) (us : Nat → Value) (h1 : ∀ (j : Nat) (d : D), ds[j]? = some d → V.C b (o + j) = some (us j)) (h2 : ∀ (j : Nat) (d : D), ds[j]? = some d → Rd V d (us j)) :
      Rd V (.cp ds) (.pointer (some ⟨b, o, none⟩))
  | rf (s g o : Nat) (a : Addr) (hg : g < V.n s) (h : ∀ b c, V.g s = some (g, b, c) → a = ⟨b, o, none⟩) : Rd V (.rf s g o) (.pointer (some a))
  | ms (s g len : Nat) (a : Addr) (cap : Nat) (hg : g < V.n s ∧ len ≤ cap) (h : ∀ b c, V.g s = some (g, b, c) → a = ⟨b, 0, none⟩ ∧ cap = c) : Rd V (.ms s g len) (.slice (some a) len cap)
  | mp (s g b' : Nat) (hg : g < V.n s) (h : ∀ b c, V.g s = some (g, b, c) → b' = b) : Rd V (.mp s g) (.map (some b'))
  | fn (f : FuncId) (ds es : List D) (vs us : List Value) (hl : ds.length = vs.length) (hl' : es.length = us.length)
      (h : ∀ (i : Nat) (d : D) (v : Value), ds[i]? = some d → vs[i]? = some v → Rd V d v) (h' : ∀ (i : Nat) (d : D) (v : Value), es[i]? = some d → us[i]? = some v → Rd V d v) :
      Rd V (.fn f ds es) (.func (.func f) vs.toArray us.toArray)

theorem Rd.mono {V V' : View} (hx : V.Ext V') {d : D} {v : Value} (h : Rd V d v) : Rd V' d v := by
  induction h with
  | sc v => exact .sc v
  | any v => exact .any v
  | nil sz => exact .nil sz
  | emp sz a cap hm => exact .emp sz a cap hm
  | sl sz rows b o cap us hc hm hl h1 _ ih => exact .sl sz rows b o cap us hc hm hl (fun i r j d hi hj => hx.c _ _ _ (h1 i r j d hi hj)) ih
  | ag ds vs hl _ ih => exact .ag ds vs hl ih
  | tp ds vs hl _ ih => exact .tp ds vs hl ih
  | cp ds b o us h1 _ ih => exact .cp ds b o us (fun j d hj => hx.c _ _ _ (h1 j d hj)) ih
  | rf s g o a hg h => exact .rf s g o a (Nat.lt_of_lt_of_le hg (hx.n s)) (fun b c e => h b c (hx.g _ _ _ _ hg e))
  | ms s g len a cap hg h => exact .ms s g len a cap ⟨Nat.lt_of_lt_of_le hg.1 (hx.n s), hg.2⟩ (fun b c e => h b c (hx.g _ _ _ _ hg.1 e))
  | mp s g b hg h => exact .mp s g b (Nat.lt_of_lt_of_le hg (hx.n s)) (fun b c e => h b c (hx.g _ _ _ _ hg e))
  | fn f ds es vs us hl hl' _ _ ih ih' => exact .fn f ds es vs us hl hl' ih ih'

/-- No object of a call's own is named. -/
inductive Cl : D → Prop
  | sc (v : Value) : Cl (.sc v)
  | any : Cl .any
  | sl (sz : Nat) (rows : List (List D)) (h : ∀ (i : Nat) (r : List D) (j : Nat) (d : D), rows[i]? = some r → r[j]? = some d → Cl d) : Cl (.sl sz rows)
  | ag (ds : List D) (h : ∀ (i : Nat) (d : D), ds[i]? = some d → Cl d) : Cl (.ag ds)
  | tp (ds : List D) (h : ∀ (i : Nat) (d : D), ds[i]? = some d → Cl d) : Cl (.tp ds)
  | cp (ds : List D) (h : ∀ (i : Nat) (d : D), ds[i]? = some d → Cl d) : Cl (.cp ds)
  | fn (f : FuncId) (ds es : List D) (h : ∀ (i : Nat) (d : D), ds[i]? = some d → Cl d) (h' : ∀ (i : Nat) (d : D), es[i]? = some d → Cl d) : Cl (.fn f ds es)

theorem Rd.closed {V V' : View} (hc : ∀ b o u, V.C b o = some u → V'.C b o = some u) {d : D} {v : Value} (h : Rd V d v) (k : Cl d) : Rd V' d v := by
  induction h with
  | sc v => exact .sc v
  | any v => exact .any v
  | nil sz => exact .nil sz
  | emp sz a cap hm => exact .emp sz a cap hm
  | sl sz rows b o cap us hc' hm hl h1 _ ih =>
    cases k with | sl _ _ k =>
    exact .sl sz rows b o cap us hc' hm hl (fun i r j d hi hj => hc _ _ _ (h1 i r j d hi hj)) (fun i r j d hi hj => ih i r j d hi hj (k i r j d hi hj))
  | ag ds vs hl _ ih => cases k with | ag _ k => exact .ag ds vs hl fun i d v hi hv => ih i d v hi hv (k i d hi)
  | tp ds vs hl _ ih => cases k with | tp _ k => exact .tp ds vs hl fun i d v hi hv => ih i d v hi hv (k i d hi)
  | cp ds b o us h1 _ ih => cases k with | cp _ k => exact .cp ds b o us (fun j d hj => hc _ _ _ (h1 j d hj)) fun j d hj => ih j d hj (k j d hj)
  | rf => cases k
  | ms => cases k
  | mp => cases k
  | fn f ds es vs us hl hl' _ _ ih ih' =>
    cases k with | fn _ _ _ k k' =>
    exact .fn f ds es vs us hl hl' (fun i d v hi hv => ih i d v hi hv (k i d hi)) (fun i d v hi hv => ih' i d v hi hv (k' i d hi))

def Cl.all (ds : List D) : Prop := ∀ d ∈ ds, Cl d

/-! ### Values without memory: their operations -/
def binV (op : BinOp) : Value → Value → Option Value
  | .int k a, .int k' b => if k = k' then (match op with
      | .add => some (.int k (k.wrap (a + b))) | .sub => some (.int k (k.wrap (a - b))) | .mul => some (.int k (k.wrap (a * b)))
      | .quo => if b = 0 then none else some (.int k (k.wrap (a.tdiv b))) | .rem => if b = 0 then none else some (.int k (a.tmod b))
      | .eql => some (.bool (a == b)) | .neq => some (.bool (a != b)) | .lss => some (.bool (decide (a < b))) | .leq => some (.bool (decide (a ≤ b)))
      | .gtr => some (.bool (decide (a > b))) | .geq => some (.bool (decide (a ≥ b))) | _ => none) else none
  | .string a, .string b => match op with
      | .add => if a.size + b.size ≤ maxLen then some (.string (a ++ b)) else none
      | .eql => some (.bool (a.toList == b.toList)) | .neq => some (.bool (!(a.toList == b.toList))) | .lss => some (.bool (Op.bytesLess a.toList b.toList)) | _ => none
  | _, _ => none
def unV (op : UnOp) : Value → Option Value
  | .bool b => (match op with | .not => some (.bool (!b)) | _ => none)
  | .int k n => (match op with | .neg => some (.int k (k.wrap (0 - n))) | _ => none)
  | _ => none

theorem binV_run {P : Program} {op : BinOp} {u v r : Value} (h : binV op u v = some r) (t : TypeId) (x y : Operand) (w : World) :
    (do eqGuard op t x y u v; binOp op t u v : Sem Value).run P w = .ok r w := by
  unfold binV at h
  split at h
  · rename_i k a k' b
    split at h
    · rename_i hk; subst hk
      rw [eqGuard_at_int]
      cases op <;> simp only [Option.some.injEq, reduceCtorEq] at h <;>
        first
        | (subst h; simp [binOp, Op.intArith, Op.intCmp]; done)
        | (split at h <;> simp only [Option.some.injEq, reduceCtorEq] at h; subst h; simp [binOp, Op.intDiv, *]; done)
    · cases h
  · rename_i a b
    rw [eqGuard_at_string]
    cases op <;> simp only [Option.some.injEq, reduceCtorEq] at h <;>
      first
      | (subst h; simp [binOp, Op.stringOp]; done)
      | (split at h <;> simp only [Option.some.injEq, reduceCtorEq] at h; subst h; rename_i hm; simp only [maxLen] at hm; simp [binOp, Op.stringOp, IntKind.max, IntKind.signed, IntKind.bits]; omega)
  · cases h

theorem unV_run {P : Program} {op : UnOp} {u r : Value} (h : unV op u = some r) (w : World) : (Op.unary op u).run P w = .ok r w := by
  unfold unV at h
  split at h
  · cases op <;> simp only [Option.some.injEq, reduceCtorEq] at h; subst h; simp [Op.unary]
  · cases op <;> simp only [Option.some.injEq, reduceCtorEq] at h; subst h; simp [Op.unary, Op.intArith]
  · cases h

/-! ### States -/
structure Ob where
  gen : Nat
  elem : TypeId
  sz : Nat
  cells : List D
  keys : Option (List Value) := none
/-- A tree of the call's own: a slice's value, what it reads as, its blocks. -/
structure TE where
  u : Value
  d : D
  F : List Nat
structure St where
  env : Nat → D
  H : Nat → Option Ob
  n : Nat → Nat
  nt : Nat
  T : List TE := []
def noN : Nat → Nat := fun _ => 0
def bump (n : Nat → Nat) (t : Nat) : Nat → Nat := fun i => if i = t then n i + 1 else n i
theorem bump_same (n : Nat → Nat) (t : Nat) : bump n t t = n t + 1 := by simp [bump]
theorem bump_ne (n : Nat → Nat) {t i : Nat} (h : i ≠ t) : bump n t i = n i := by simp [bump, h]
theorem bump_le (n : Nat → Nat) (t i : Nat) : n i ≤ bump n t i := by unfold bump; split <;> omega
def setE (e : Nat → D) (t : Nat) (d : D) : Nat → D := fun i => if i = t then d else e i
def St.put (s : St) (o : Option Nat) (d : D) : St :=
  match o with
  | some t => if t < s.nt then { s with env := setE s.env t d } else s
  | none => s
def St.ev (s : St) : Operand → D
  | .tmp t => s.env t
  | .const v => .sc v
  | .func f => .fn f [] []
  | .global _ => .any

def szOf (P : Program) (t : TypeId) : Option Nat := (P.info? t).map (·.size)
def agB (P : Program) (t : TypeId) : Option Bool := (P.underlying t).map fun | .struct _ | .array _ _ => true | _ => false
def elemSz (P : Program) (t : TypeId) : Option Nat := match P.underlying t with | some (.slice e) => szOf P e | _ => none
def fieldOff (P : Program) (t : TypeId) (f : Nat) : Option Nat :=
  match P.underlying t with
  | some (.struct fs) => match fs[f]? with | some x => (match szOf P x.type with | some 0 | none => none | _ => some x.offset) | none => none
  | _ => none
def fieldTy (P : Program) (t : TypeId) (f : Nat) : Option (TypeId × Nat) :=
  match P.underlying t with
  | some (.struct fs) => (fs[f]?).map fun x => (x.type, x.offset)
  | _ => none
/-- what kind of type it is: 0 string, 1 slice, 2 else -/
def kindT (P : Program) (t : TypeId) : Nat := match P.underlying t with | some .string => 0 | some (.slice _) => 1 | some .bool => 2 | some (.int _) => 3 | _ => 4
def intT (P : Program) (t : TypeId) : Option IntKind := match P.underlying t with | some (.int k) => some k | _ => none

/-- a part of flat cells, as a value of a type -/
def partD (P : Program) (t : TypeId) (ds : List D) : Option D :=
  match agB P t with
  | some true => match szOf P t with
    | some n => if n ≤ ds.length then some (.ag (ds.take n)) else none
    | none => none
  | some false => ds.head?
  | none => none
def loadD (P : Program) (s : St) (t : TypeId) : D → Option D
  | .cp ds => partD P t ds
  | .rf sl x off => match s.H sl with
    | some ob => if ob.gen = x ∧ ob.keys = none then partD P t (ob.cells.drop off) else none
    | none => none
  | _ => none
def lenD (P : Program) (t : TypeId) : D → Option D
  | .sc (.string b) => if kindT P t = 0 then some (.sc (.int .i64 b.size)) else none
  | .sc (.slice none 0 0) => if kindT P t = 1 then some (.sc (.int .i64 0)) else none
  | .sl _ rows => if kindT P t = 1 then some (.sc (.int .i64 rows.length)) else none
  | .ms _ _ len => if kindT P t = 1 then some (.sc (.int .i64 len)) else none
  | _ => none
def capD (P : Program) (t : TypeId) : D → Option D
  | .sc (.slice none 0 0) => if kindT P t = 1 then some (.sc (.int .i64 0)) else none
  | _ => none
def indexAddrD (P : Program) (t : TypeId) : D → D → Option D
  | .sl sz rows, .sc (.int _ n) => match rows[n.toNat]? with
    | some r => if 0 ≤ n ∧ elemSz P t = some sz then some (.cp r) else none
    | none => none
  | .ms sl x len, .sc (.int _ n) => match elemSz P t with
    | some sz => if 0 ≤ n ∧ n < len then some (.rf sl x (n.toNat * sz)) else none
    | none => none
  | _, _ => none
def fieldAddrD (P : Program) (t : TypeId) (f : Nat) : D → Option D
  | .cp ds => (fieldOff P t f).map fun o => .cp (ds.drop o)
  | .rf sl x off => (fieldOff P t f).map fun o => .rf sl x (off + o)
  | _ => none
def indexD (P : Program) (t : TypeId) : D → D → Option D
  | .sc (.string b), .sc (.int _ n) => if kindT P t = 0 ∧ 0 ≤ n then (b[n.toNat]?).map fun c => .sc (.int .u8 c.toNat) else none
  | _, _ => none
def maxV (a b : Value) : Option Value := match a, b with | .int k x, .int k' y => if k = k' then some (.int k (if x < y then y else x)) else none | _, _ => none

/-- a comparison of a slice with nil -/
def nilB (op : BinOp) (b : Bool) : Option D := match op with | .eql => some (.sc (.bool b)) | .neq => some (.sc (.bool (!b))) | _ => none
def stepPure (P : Program) (s : St) : Op → Option D
  | .move x | .assign x => some (s.ev x)
  | .pick c a b => match s.ev c with | .sc (.bool t) => some (if t then s.ev a else s.ev b) | _ => none
  | .binOp op t x y _ => match s.ev x, s.ev y with
    | .sc (.bool a), .sc (.bool b) => if kindT P t = 2 then (match op with | .eql => some (.sc (.bool (a == b))) | .neq => some (.sc (.bool (a != b))) | _ => none) else none
    | .sc (.slice a _ _), .sc (.slice none 0 0) => if kindT P t = 1 then nilB op a.isNone else none
    | .sc u, .sc v => (binV op u v).map .sc
    | .sl _ (_ :: _), .sc (.slice none 0 0) => if kindT P t = 1 then nilB op false else none
    | .ms _ _ _, .sc (.slice none 0 0) => if kindT P t = 1 then nilB op false else none
    | _, _ => none
  | .unOp op _ x => match s.ev x with | .sc u => (unV op u).map .sc | _ => none
  | .extract x i => match s.ev x with | .tp ds => ds[i]? | _ => none
  | .field t x f => match s.ev x, fieldTy P t f with | .ag ds, some (ft, o) => partD P ft (ds.drop o) | _, _ => none
  | .index t x i => indexD P t (s.ev x) (s.ev i)
  | .indexAddr t x i => indexAddrD P t (s.ev x) (s.ev i)
  | .fieldAddr t x f => fieldAddrD P t f (s.ev x)
  | .load t x => loadD P s t (s.ev x)
  | .nilCheck x => match s.ev x with | .cp ds => some (.cp ds) | .rf a b c => some (.rf a b c) | .fn f a b => some (.fn f a b) | _ => none
  | .makeFunc (.func f) first caps => some (.fn f (first.toList.map s.ev) (caps.toList.map s.ev))
  | .convert src dst x => match s.ev x, intT P dst, (P.underlying src).isSome with | .sc (.int _ n), some k, true => some (.sc (.int k (k.wrap n))) | _, _, _ => none
  | .call c => match c.callee with
    | .builtin .len => match c.args.toList, c.argTypes.toList with | [x], [t] => lenD P t (s.ev x) | _, _ => none
    | .builtin .cap => match c.args.toList, c.argTypes.toList with | [x], [t] => capD P t (s.ev x) | _, _ => none
    | _ => none
  | _ => none

/-! ### The relation to the machine's states -/
open Classical in
noncomputable def view (w : World) (M : Nat → Prop) (g : Nat → Option (Nat × Nat × Nat)) (n : Nat → Nat) : View where
  C b o := if M b ∨ ∃ s x c, g s = some (x, b, c) then none else w.cell? ⟨b, o, none⟩
  g := g
  n := n

theorem view_cell {w : World} {M : Nat → Prop} {g : Nat → Option (Nat × Nat × Nat)} {n : Nat → Nat} {b o : Nat} {u : Value} (h : (view w M g n).C b o = some u) : w.cell? ⟨b, o, none⟩ = some u := by
  simp only [view] at h; split at h
  · cases h
  · exact h
theorem view_free {w : World} {M : Nat → Prop} {g : Nat → Option (Nat × Nat × Nat)} {n : Nat → Nat} {b o : Nat} {u : Value} (h : (view w M g n).C b o = some u) : ¬ M b ∧ ∀ s x c, g s ≠ some (x, b, c) := by
  simp only [view] at h; split at h
  · cases h
  · rename_i h'; exact ⟨fun k => h' (.inl k), fun s x c k => h' (.inr ⟨s, x, c, k⟩)⟩
theorem view_mk {w : World} {M : Nat → Prop} {g : Nat → Option (Nat × Nat × Nat)} {n : Nat → Nat} {b o : Nat} {u : Value} (h : w.cell? ⟨b, o, none⟩ = some u) (hM : ¬ M b) (hg : ∀ s x c, g s ≠ some (x, b, c)) : (view w M g n).C b o = some u := by
  simp only [view]
  rw [if_neg]
  · exact h
  · rintro (k | ⟨s, x, c, k⟩)
    · exact hM k
    · exact hg s x c k

/-- The block of an object: cells, or a map's entries (the keys known, the values the object's cells). -/
def HeapIs (w : World) (b : Nat) (ob : Ob) (vs : Array Value) : Prop :=
  match ob.keys with
  | none => w.heap[b]? = some (.cells vs ob.elem (0, 0))
  | some ks => ∃ es clock, w.heap[b]? = some (.map es clock) ∧ es.toList.map (·.key) = ks ∧ es.toList.map (·.val) = vs.toList
theorem HeapIs.mono {w w' : World} {b : Nat} {ob : Ob} {vs : Array Value} (h : HeapIs w b ob vs) (e : w'.heap[b]? = w.heap[b]?) : HeapIs w' b ob vs := by
  unfold HeapIs at *; rw [e]; exact h
theorem HeapIs.cells {w : World} {b : Nat} {ob : Ob} {vs : Array Value} (h : HeapIs w b ob vs) (k : ob.keys = none) : w.heap[b]? = some (.cells vs ob.elem (0, 0)) := by
  unfold HeapIs at h; rw [k] at h; exact h
theorem HeapIs.of {w : World} {b : Nat} {ob : Ob} {vs : Array Value} (h : w.heap[b]? = some (.cells vs ob.elem (0, 0))) (k : ob.keys = none) : HeapIs w b ob vs := by
  unfold HeapIs; rw [k]; exact h
theorem HeapIs.lt {w : World} {b : Nat} {ob : Ob} {vs : Array Value} (h : HeapIs w b ob vs) : b < w.heap.size := by
  unfold HeapIs at h
  split at h
  · exact (Array.getElem?_eq_some_iff.1 h).1
  · obtain ⟨es, clock, h, _⟩ := h; exact (Array.getElem?_eq_some_iff.1 h).1

/-- The cells of an object, and where they lie. -/
structure ObOk (V : View) (w : World) (t : Nat) (ob : Ob) : Prop where
  gen : ob.gen < V.n t
  ex : ∃ b c vs, V.g t = some (ob.gen, b, c) ∧ HeapIs w b ob vs ∧ (ob.keys = none → vs.size = c * ob.sz) ∧ c ≤ maxLen ∧ ob.cells.length ≤ vs.size ∧ ∀ (j : Nat) (d : D), ob.cells[j]? = some d → ∃ u, vs[j]? = some u ∧ Rd V d u

/-! ### Trees: memory that no two cells share -/
/-- A cell's value that reads as data, its blocks listed: each block once, if the list has no double. -/
inductive T1 (w : World) : D → Value → List Nat → Prop
  | sc (v : Value) : T1 w (.sc v) v []
  | nil (sz : Nat) : T1 w (.sl sz []) (.slice none 0 0) []
  | emp (sz : Nat) (a : Addr) (cap : Nat) (hm : cap ≤ maxLen) : T1 w (.sl sz []) (.slice (some a) 0 cap) []
  | sl (sz : Nat) (rows : List (List D)) (b cap : Nat) (vs : Array Value) (e : TypeId) (us : Nat → Value) (Fs : Nat → List Nat) (hb : w.heap[b]? = some (.cells vs e (0, 0)))
      (hc : rows.length ≤ cap) (hm : cap ≤ maxLen) (hsz : vs.size = cap * sz) (h0 : 0 < sz) (hl : ∀ r ∈ rows, r.length = sz)
      (hu : ∀ (j : Nat) (d : D), rows.flatten[j]? = some d → vs[j]? = some (us j)) (h : ∀ (j : Nat) (d : D), rows.flatten[j]? = some d → T1 w d (us j) (Fs j)) :
      T1 w (.sl sz rows) (.slice (some ⟨b, 0, none⟩) rows.length cap) (b :: (List.range rows.flatten.length).flatMap Fs)
theorem T1.mono {w w' : World} {d : D} {v : Value} {F : List Nat} (h : T1 w d v F) : (∀ b ∈ F, w'.heap[b]? = w.heap[b]?) → T1 w' d v F := by
  induction h with
  | sc v => exact fun _ => .sc v
  | nil sz => exact fun _ => .nil sz
  | emp sz a cap hm => exact fun _ => .emp sz a cap hm
  | sl sz rows b cap vs e us Fs hb hc hm hsz h0 hl hu _ ih =>
    intro hF
    refine .sl sz rows b cap vs e us Fs ((hF b (by simp)).trans hb) hc hm hsz h0 hl hu fun j d hj => ih j d hj fun x hx => hF x ?_
    exact List.mem_cons_of_mem _ (List.mem_flatMap.2 ⟨j, List.mem_range.2 (List.getElem?_eq_some_iff.1 hj).1, hx⟩)
theorem T1.lt {w : World} {d : D} {v : Value} {F : List Nat} (h : T1 w d v F) : ∀ b ∈ F, b < w.heap.size := by
  induction h with
  | sc v => simp
  | nil sz => simp
  | emp sz a cap hm => simp
  | sl sz rows b cap vs e us Fs hb hc hm hsz h0 hl hu _ ih =>
    intro x hx
    rcases List.mem_cons.1 hx with rfl | hx
    · exact (Array.getElem?_eq_some_iff.1 hb).1
    · obtain ⟨j, hj, hx⟩ := List.mem_flatMap.1 hx
      exact ih j _ (List.getElem?_eq_getElem (List.mem_range.1 hj)) x hx
theorem flatten_len {rows : List (List D)} {sz : Nat} (h : ∀ r ∈ rows, r.length = sz) : rows.flatten.length = rows.length * sz := by
  induction rows with
  | nil => simp
  | cons r rows ih =>
    simp only [List.flatten_cons, List.length_append, List.length_cons]
    rw [ih fun r hr => h r (by simp [hr]), h r (by simp), Nat.add_mul]; omega
theorem flatten_get {rows : List (List D)} {sz : Nat} (h : ∀ r ∈ rows, r.length = sz) {i j : Nat} {r : List D} {d : D} (hi : rows[i]? = some r) (hj : r[j]? = some d) : rows.flatten[i * sz + j]? = some d := by
  induction rows generalizing i with
  | nil => simp at hi
  | cons r0 rows ih =>
    have h0 := h r0 (by simp)
    rw [List.flatten_cons]
    cases i with
    | zero =>
      simp at hi; subst hi
      rw [Nat.zero_mul, Nat.zero_add, List.getElem?_append_left (List.getElem?_eq_some_iff.1 hj).1]; exact hj
    | succ i =>
      rw [List.getElem?_append_right (by rw [Nat.add_mul]; omega)]
      have := ih (fun r hr => h r (by simp [hr])) (i := i) (by simpa using hi)
      rw [← this]; congr 1; rw [Nat.add_mul]; omega
theorem T1.rd {w : World} {M : Nat → Prop} {g : Nat → Option (Nat × Nat × Nat)} {n : Nat → Nat} {d : D} {v : Value} {F : List Nat} (h : T1 w d v F) : (∀ b ∈ F, ¬ M b ∧ ∀ s x c, g s ≠ some (x, b, c)) → Rd (view w M g n) d v := by
  induction h with
  | sc v => exact fun _ => .sc v
  | nil sz => exact fun _ => .nil sz
  | emp sz a cap hm => exact fun _ => .emp sz a cap hm
  | sl sz rows b cap vs e us Fs hb hc hm hsz h0 hl hu _ ih =>
    intro hF
    obtain ⟨q1, q2⟩ := hF b (by simp)
    refine .sl sz rows b 0 cap (fun i j => us (i * sz + j)) hc hm (fun i r hi => hl r (List.mem_of_getElem? hi)) (fun i r j d hi hj => ?_) (fun i r j d hi hj => ?_)
    · refine view_mk ?_ q1 q2
      rw [Nat.zero_add]
      simp only [World.cell?, hb]
      exact hu _ d (flatten_get hl hi hj)
    · have hf := flatten_get hl hi hj
      refine ih _ d hf fun x hx => hF x ?_
      exact List.mem_cons_of_mem _ (List.mem_flatMap.2 ⟨_, List.mem_range.2 (List.getElem?_eq_some_iff.1 hf).1, hx⟩)

/-- What a call begins with: the world, the caller's blocks that it doesn't read, the caller's blocks that it may write. -/
structure Bs where
  w : World
  M : Nat → Prop
  X : Nat → Prop
  O : Option (Nat × Nat) := none
def Bs.own (z : Bs) (b : Nat) : Prop := z.w.heap.size ≤ b ∨ z.X b
structure Bs.Ok (z : Bs) (w : World) : Prop where
  os : w.os = z.w.os
  tape : w.tape = z.w.tape
  output : w.output = z.w.output
  size : z.w.heap.size ≤ w.heap.size
  block : ∀ k, ¬ z.own k → w.heap[k]? = z.w.heap[k]?
theorem Bs.Ok.step {z : Bs} {w w' : World} (h : z.Ok w) (hos : w'.os = w.os) (htape : w'.tape = w.tape) (hout : w'.output = w.output) (hsize : w.heap.size ≤ w'.heap.size) (hb : ∀ k, ¬ z.own k → w'.heap[k]? = w.heap[k]?) : z.Ok w' :=
  ⟨hos.trans h.os, htape.trans h.tape, hout.trans h.output, Nat.le_trans h.size hsize, fun k hk => (hb k hk).trans (h.block k hk)⟩
theorem Bs.not_own {z : Bs} {k : Nat} (h : ¬ z.own k) : k < z.w.heap.size := by
  unfold Bs.own at h; omega

structure Rep (w0 : Bs) (M : Nat → Prop) (g : Nat → Option (Nat × Nat × Nat)) (s : St) (a : Act) (w : World) : Prop where
  defers : a.defers = []
  size : a.tmps.size = s.nt
  env : ∀ i, Rd (view w M g s.n) (s.env i) (a.tmps.getD i undef)
  obj : ∀ t ob, s.H t = some ob → ObOk (view w M g s.n) w t ob
  base : ∀ t x b c, g t = some (x, b, c) → w0.own b ∧ b < w.heap.size
  inj : ∀ t t' x b c x' c', g t = some (x, b, c) → g t' = some (x', b, c') → t = t'
  below : w0.Ok w
  m0 : ∀ b, M b → b < w.heap.size ∧ ∀ t x c, g t ≠ some (x, b, c)
  mm : ∀ b, M b ↔ w0.M b ∨ ∃ e ∈ s.T, b ∈ e.F
  zm : ∀ b, w0.M b → ¬ w0.own b
  tree : ∀ e ∈ s.T, T1 w e.d e.u e.F ∧ ∀ b ∈ e.F, w0.own b
  nd : (s.T.flatMap (·.F)).Nodup
  og : ∀ x, w0.O = some x → 1 ≤ s.n 0 ∧ ∀ b c, g 0 = some (0, b, c) → (b, c) = x
/-- what stays where nothing turned in the blocks that are set aside -/
theorem tree_keep {w0 : Bs} {M : Nat → Prop} {g : Nat → Option (Nat × Nat × Nat)} {s : St} {a : Act} {w w' : World} (h : Rep w0 M g s a w) (hk : ∀ b, M b → w'.heap[b]? = w.heap[b]?) : ∀ e ∈ s.T, T1 w' e.d e.u e.F ∧ ∀ b ∈ e.F, w0.own b := fun e he =>
  ⟨(h.tree e he).1.mono fun b hb => hk b ((h.mm b).2 (.inr ⟨e, he, hb⟩)), (h.tree e he).2⟩

theorem Rep.ev {w0 : Bs} {M : Nat → Prop} {g : Nat → Option (Nat × Nat × Nat)} {s : St} {a : Act} {w : World} (h : Rep w0 M g s a w) (x : Operand) : Rd (view w M g s.n) (s.ev x) (a.eval x) := by
  cases x with
  | tmp t => exact h.env t
  | const v => exact .sc v
  | global => exact .any _
  | func f => exact .fn f [] [] [] [] rfl rfl (by simp) (by simp)

theorem cell_of_block {w : World} {b o : Nat} {vs : Array Value} {e : TypeId} {f : Nat × Nat} (h : w.heap[b]? = some (.cells vs e f)) : w.cell? ⟨b, o, none⟩ = vs[o]? := by
  simp [World.cell?, h]

theorem szOf_some {P : Program} {t : TypeId} {n : Nat} (h : szOf P t = some n) (w : World) : (sizeOf t).run P w = .ok n w := by
  unfold szOf at h
  cases hi : P.info? t with
  | none => simp [hi] at h
  | some i => simp [hi] at h; subst h; simp [sizeOf, typeInfo, hi]

theorem agB_some {P : Program} {t : TypeId} {b : Bool} (h : agB P t = some b) (w : World) : (isAgg t).run P w = .ok b w := by
  unfold agB at h
  cases hu : P.underlying t with
  | none => simp [hu] at h
  | some d =>
    simp only [hu, Option.map_some, Option.some.injEq] at h
    subst h
    cases d <;> simp [isAgg, run_underlying hu]

theorem add_lit (b o n : Nat) : Addr.add ⟨b, o, none⟩ n = ⟨b, o + n, none⟩ := Addr.add_lit b o n

/-- A load of related cells. -/
theorem load_part {P : Program} {V : View} {t : TypeId} {ds : List D} {d : D} (h : partD P t ds = some d) {b o : Nat} (us : Nat → Value) (h2 : ∀ (j : Nat) (e : D), ds[j]? = some e → Rd V e (us j)) :
    ∃ v, Rd V d v ∧ ∀ w : World, (∀ (j : Nat) (e : D), ds[j]? = some e → w.cell? ⟨b, o + j, none⟩ = some (us j)) → (loadVar t ⟨b, o, none⟩).run P w = .ok v w := by
  unfold partD at h
  split at h
  · rename_i ha
    split at h
    · rename_i n hn
      split at h
      · rename_i hle
        simp only [Option.some.injEq] at h; subst h
        have hlen : ((List.range n).map us).length = n := by simp
        refine ⟨.agg ((List.range n).map us).toArray, .ag _ _ (by simp; omega) (fun i d v hd hv => ?_), fun w hc => ?_⟩
        · rw [List.getElem?_take] at hd
          split at hd
          · rename_i hi
            rw [List.getElem?_map, List.getElem?_range hi] at hv
            simp only [Option.map_some, Option.some.injEq] at hv
            subst hv; exact h2 i d hd
          · cases hd
        · have hl := run_loadCells_list (P := P) w ⟨b, o, none⟩ ((List.range n).map us) (fun j v hv => by
            rw [List.getElem?_map] at hv
            by_cases hj : j < n
            · rw [List.getElem?_range hj] at hv
              simp only [Option.map_some, Option.some.injEq] at hv
              subst hv
              rw [add_lit]
              exact hc j _ (List.getElem?_eq_getElem (by omega))
            · rw [List.getElem?_eq_none (by simpa using hj)] at hv; cases hv)
          rw [hlen] at hl
          simp only [loadVar, Sem.run_bind, agB_some ha, Result.andThen_ok, if_true, szOf_some hn, hl]
          rfl
      · cases h
    · cases h
  · rename_i ha
    cases ds with
    | nil => cases h
    | cons e ds =>
      simp only [List.head?_cons, Option.some.injEq] at h; subst h
      refine ⟨us 0, h2 0 e rfl, fun w hc => ?_⟩
      have := hc 0 e rfl
      simp only [Nat.add_zero] at this
      simp [loadVar, Sem.run_bind, agB_some ha, this]
  · cases h

theorem below_cell {w w' : World} (hb : Below w.heap.size w w') {b o : Nat} {u : Value} (h : w.cell? ⟨b, o, none⟩ = some u) : w'.cell? ⟨b, o, none⟩ = some u := by
  have hlt : b < w.heap.size := by
    rcases Nat.lt_or_ge b w.heap.size with h' | h'
    · exact h'
    · simp [World.cell?, Array.getElem?_eq_none h'] at h
  rw [← h]; exact hb.cell (p := ⟨b, o, none⟩) hlt

theorem run_value {P : Program} {x : Sem Value} {v : Value} {w : World} (h : x.run P w = .ok v w) : (do pure (Next.value (← x)) : Sem Next).run P w = .ok (.value v) w := by
  simp only [Sem.run_bind, h, Result.andThen_ok]; rfl

section
variable {P : Program} {w0 : Bs} {M : Nat → Prop} {g : Nat → Option (Nat × Nat × Nat)} {s : St} {a : Act} {w : World}

theorem Rd.at_list {V : View} {ds : List D} {vs : List Value} (hl : ds.length = vs.length) (h : ∀ (i : Nat) (d : D) (v : Value), ds[i]? = some d → vs[i]? = some v → Rd V d v) {i : Nat} {d : D} (hd : ds[i]? = some d) : ∃ v, vs[i]? = some v ∧ Rd V d v := by
  have hi : i < ds.length := (List.getElem?_eq_some_iff.1 hd).1
  exact ⟨vs[i]'(by omega), List.getElem?_eq_getElem (by omega), h i d _ hd (List.getElem?_eq_getElem (by omega))⟩

theorem load_sound (hr : Rep w0 M g s a w) {t : TypeId} {x : Operand} {d : D} (h : loadD P s t (s.ev x) = some d) :
    ∃ v, Rd (view w M g s.n) d v ∧ ∀ w', Below w.heap.size w w' → (Instr.loadAt t (a.eval x)).run P w' = .ok v w' := by
  have hx := hr.ev x
  generalize s.ev x = dx at h hx
  generalize a.eval x = vx at hx
  unfold loadD at h
  split at h
  · rename_i ds
    cases hx with | cp _ b o us h1 h2 =>
    obtain ⟨v, hv, hrun⟩ := load_part h (b := b) (o := o) us h2
    exact ⟨v, hv, fun w' hb => by
      simp only [Instr.loadAt, Instr.sureAddr, Sem.run_bind, Sem.run_pure, Result.andThen_ok]
      exact hrun w' fun j e hj => below_cell hb (view_cell (h1 j e hj))⟩
  · rename_i sl x off
    split at h
    · rename_i ob hob
      split at h
      · rename_i hgen
        obtain ⟨hgen, hks⟩ := hgen
        obtain ⟨hg, b, c, vs, hgt, hheap, hsz, hc, hlen, hcells⟩ := hr.obj sl ob hob
        have hsz := hsz hks
        have hheap := hheap.cells hks
        cases hx with | rf _ _ _ ad hgn hx =>
        have := hx b c (by rw [← hgen]; exact hgt)
        subst this
        obtain ⟨v, hv, hrun⟩ := load_part h (b := b) (o := off) (fun j => vs.getD (off + j) undef) (fun j e hj => by
          rw [List.getElem?_drop] at hj
          obtain ⟨u, hu, hR⟩ := hcells _ _ hj
          simp [Array.getD_eq_getD_getElem?, hu]; exact hR)
        exact ⟨v, hv, fun w' hb => by
          simp only [Instr.loadAt, Instr.sureAddr, Sem.run_bind, Sem.run_pure, Result.andThen_ok]
          exact hrun w' fun j e hj => by
            rw [List.getElem?_drop] at hj
            obtain ⟨u, hu, _⟩ := hcells _ _ hj
            refine below_cell hb ?_
            rw [cell_of_block hheap, hu]; simp [Array.getD_eq_getD_getElem?, hu]⟩
      · cases h
    · cases h
  · cases h

theorem cap_sound {t : TypeId} {d dx : D} {vx : Value} {V : View} (h : capD P t dx = some d) (hx : Rd V dx vx) (ty : TypeId) :
    ∃ v, Rd V d v ∧ ∀ w' : World, (Builtin.cap_ #[t] ty #[vx]).run P w' = .ok v w' := by
  have k1 : kindT P t = 1 → ∃ e, P.underlying t = some (.slice e) := fun e => by unfold kindT at e; split at e <;> simp_all
  unfold capD at h
  split at h
  · cases hx
    split at h
    · rename_i e
      cases h
      obtain ⟨e', he⟩ := k1 e
      exact ⟨_, .sc _, fun w' => by simp [Builtin.cap_, run_underlying he, goInt]⟩
    · cases h
  · cases h
theorem len_sound {t : TypeId} {d dx : D} {vx : Value} {V : View} (h : lenD P t dx = some d) (hx : Rd V dx vx) (ty : TypeId) :
    ∃ v, Rd V d v ∧ ∀ w' : World, (Builtin.len_ #[t] ty #[vx]).run P w' = .ok v w' := by
  have k0 : kindT P t = 0 → P.underlying t = some .string := fun e => by unfold kindT at e; split at e <;> simp_all
  have k1 : kindT P t = 1 → ∃ e, P.underlying t = some (.slice e) := fun e => by unfold kindT at e; split at e <;> simp_all
  unfold lenD at h
  split at h
  · cases hx
    split at h
    · rename_i e
      cases h
      exact ⟨_, .sc _, fun w' => by simp [Builtin.len_, run_underlying (k0 e), goInt]⟩
    · cases h
  · cases hx
    split at h
    · rename_i e
      cases h
      obtain ⟨e', he⟩ := k1 e
      exact ⟨_, .sc _, fun w' => by simp [Builtin.len_, run_underlying he, goInt]⟩
    · cases h
  · split at h
    · rename_i e
      cases h
      obtain ⟨e', he⟩ := k1 e
      cases hx <;> exact ⟨_, .sc _, fun w' => by simp [Builtin.len_, run_underlying he, goInt]⟩
    · cases h
  · split at h
    · rename_i e
      cases h
      obtain ⟨e', he⟩ := k1 e
      cases hx
      exact ⟨_, .sc _, fun w' => by simp [Builtin.len_, run_underlying he, goInt]⟩
    · cases h
  · cases h

theorem elemSz_spec {t : TypeId} {n : Nat} (h : elemSz P t = some n) : ∃ e, P.underlying t = some (.slice e) ∧ szOf P e = some n := by
  unfold elemSz at h; split at h
  · rename_i e he; exact ⟨e, he, h⟩
  · cases h

theorem indexAddr_sound {t : TypeId} {d dx di : D} {vx vi : Value} {V : View} (h : indexAddrD P t dx di = some d) (hx : Rd V dx vx) (hi : Rd V di vi) :
    ∃ v, Rd V d v ∧ ∀ w' : World, (Instr.indexAt t vx vi).run P w' = .ok v w' := by
  unfold indexAddrD at h
  split at h
  · rename_i sz rows k n
    cases hi
    split at h
    · rename_i r hrow
      split at h
      · rename_i hcond
        obtain ⟨h0, he⟩ := hcond
        obtain ⟨e, hu, hsz⟩ := elemSz_spec he
        cases h
        have hlt : n.toNat < rows.length := (List.getElem?_eq_some_iff.1 hrow).1
        cases hx with
        | nil => simp at hlt
        | emp => simp at hlt
        | sl _ _ b o cap us hc hm hl h1 h2 =>
          refine ⟨.pointer (some ⟨b, o + n.toNat * sz, none⟩), .cp _ b _ (fun j => us n.toNat j) (fun j d hj => ?_) (fun j d hj => h2 _ _ _ _ hrow hj), fun w' => ?_⟩
          · exact h1 _ _ _ _ hrow hj
          · have hn : n < (rows.length : Int) := by omega
            simp [Instr.indexAt, asIntOf, run_underlying hu, h0, hn, szOf_some hsz, add_lit]
      · cases h
    · cases h
  · rename_i sl x len k n
    cases hi
    split at h
    · rename_i sz he
      split at h
      · rename_i hcond
        obtain ⟨h0, hn⟩ := hcond
        obtain ⟨e, hu, hsz⟩ := elemSz_spec he
        cases h
        cases hx with
        | ms _ _ _ ad cap hg hx =>
          refine ⟨.pointer (some (ad.add (n.toNat * sz))), .rf _ _ _ _ hg.1 (fun b c e => ?_), fun w' => ?_⟩
          · have := (hx b c e).1
            subst this
            rw [add_lit, Nat.zero_add]
          · simp [Instr.indexAt, asIntOf, run_underlying hu, h0, hn, szOf_some hsz]
      · cases h
    · cases h
  · cases h

theorem fieldOff_spec {t : TypeId} {f o : Nat} (h : fieldOff P t f = some o) : ∃ fs x n, P.underlying t = some (.struct fs) ∧ fs[f]? = some x ∧ szOf P x.type = some n ∧ n ≠ 0 ∧ x.offset = o := by
  unfold fieldOff at h
  split at h
  · rename_i fs hu
    split at h
    · rename_i x hx
      split at h
      · cases h
      · cases h
      · rename_i h0 h1
        cases hn : szOf P x.type with
        | none => exact absurd hn h1
        | some n => exact ⟨fs, x, n, hu, hx, hn, fun e => h0 (by rw [hn, e]), by simpa using h⟩
    · cases h
  · cases h

theorem fieldAddr_sound {t : TypeId} {f : Nat} {d dx : D} {vx : Value} {V : View} (h : fieldAddrD P t f dx = some d) (hx : Rd V dx vx) :
    ∃ v, Rd V d v ∧ ∀ w' : World, (Instr.fieldAt t vx f).run P w' = .ok v w' := by
  unfold fieldAddrD at h
  split at h
  · rename_i ds
    simp only [Option.map_eq_some_iff] at h
    obtain ⟨o, ho, rfl⟩ := h
    obtain ⟨fs, x, n, hu, hfx, hn, hn0, rfl⟩ := fieldOff_spec ho
    cases hx with | cp _ b ob us h1 h2 =>
    refine ⟨.pointer (some ⟨b, ob + x.offset, none⟩), .cp _ b _ (fun j => us (x.offset + j)) (fun j d hj => ?_) (fun j d hj => ?_), fun w' => ?_⟩
    · rw [List.getElem?_drop] at hj
      have := h1 _ _ hj
      rwa [← Nat.add_assoc] at this
    · rw [List.getElem?_drop] at hj
      exact h2 _ _ hj
    · simp [Instr.fieldAt, run_underlying hu, hfx, Instr.sureAddr, fieldPlace, szOf_some hn, hn0, add_lit]
  · rename_i sl x off
    simp only [Option.map_eq_some_iff] at h
    obtain ⟨o, ho, rfl⟩ := h
    obtain ⟨fs, x, n, hu, hfx, hn, hn0, rfl⟩ := fieldOff_spec ho
    cases hx with | rf _ _ _ ad hg hx =>
    refine ⟨.pointer (some (ad.add x.offset)), .rf _ _ _ _ hg (fun b c e => ?_), fun w' => ?_⟩
    · have := hx b c e
      subst this
      rw [add_lit]
    · simp [Instr.fieldAt, run_underlying hu, hfx, Instr.sureAddr, fieldPlace, szOf_some hn, hn0]
  · cases h

theorem part_sound {t : TypeId} {d : D} {V : View} {ds : List D} {vs : List Value} {o : Nat} (hl : ds.length = vs.length) (hv : ∀ (i : Nat) (d : D) (v : Value), ds[i]? = some d → vs[i]? = some v → Rd V d v) (h : partD P t (ds.drop o) = some d) :
    ∃ v, Rd V d v ∧ ∀ w' : World, (part t vs.toArray o).run P w' = .ok v w' := by
  unfold partD at h
  split at h
  · rename_i ha
    split at h
    · rename_i n hn
      split at h
      · rename_i hle
        cases h
        refine ⟨.agg ((vs.drop o).take n).toArray, .ag _ _ (by simp [hl]) (fun i d v hd hv' => ?_), fun w' => ?_⟩
        · rw [List.getElem?_take, List.getElem?_drop] at hd hv'
          split at hd
          · rename_i hi; rw [if_pos hi] at hv'; exact hv _ _ _ hd hv'
          · cases hd
        · simp only [part, Sem.run_bind, agB_some ha, Result.andThen_ok, if_true, szOf_some hn]
          simp [List.extract_eq_take_drop]
      · cases h
    · cases h
  · rename_i ha
    cases hd : ds.drop o with
    | nil => rw [hd] at h; cases h
    | cons e r =>
      rw [hd] at h
      simp only [List.head?_cons, Option.some.injEq] at h
      have h0 : ds[o]? = some d := by have := congrArg (·[0]?) hd; simpa [h] using this
      obtain ⟨v, hv1, hv2⟩ := Rd.at_list hl hv h0
      exact ⟨v, hv2, fun w' => by simp [part, agB_some ha, hv1]⟩
  · cases h

theorem index_sound {t : TypeId} {d dx di : D} {vx vi : Value} {V : View} (h : indexD P t dx di = some d) (hx : Rd V dx vx) (hi : Rd V di vi) :
    ∃ v, Rd V d v ∧ ∀ w' : World, (Instr.index t vx vi).run P w' = .ok v w' := by
  have k0 : kindT P t = 0 → P.underlying t = some .string := fun e => by unfold kindT at e; split at e <;> simp_all
  unfold indexD at h
  split at h
  · cases hx; cases hi
    split at h
    · rename_i hc
      simp only [Option.map_eq_some_iff] at h
      obtain ⟨c, hc', rfl⟩ := h
      exact ⟨_, .sc _, fun w' => by simp [Instr.index, asIntOf, run_underlying (k0 hc.1), hc.2, hc']⟩
    · cases h
  · cases h

theorem list_sound (hr : Rep w0 M g s a w) (l : List Operand) : (l.map s.ev).length = (l.map a.eval).length ∧ ∀ (i : Nat) (d : D) (v : Value), (l.map s.ev)[i]? = some d → (l.map a.eval)[i]? = some v → Rd (view w M g s.n) d v := by
  refine ⟨by simp, fun i d v hd hv => ?_⟩
  rw [List.getElem?_map] at hd hv
  cases hi : l[i]? with
  | none => rw [hi] at hd; cases hd
  | some x => rw [hi] at hd hv; cases hd; cases hv; exact hr.ev x

theorem nilB_run {P : Program} {op : BinOp} {t : TypeId} {b : Bool} {d : D} (h : nilB op b = some d) (hk : kindT P t = 1) (a : Option Addr) (n c : Nat) (hb : a.isNone = b) (x y : Operand) :
    ∃ v, d = .sc v ∧ ∀ w, (do eqGuard op t x y (.slice a n c) (.slice none 0 0); binOp op t (.slice a n c) (.slice none 0 0) : Sem Value).run P w = .ok v w := by
  obtain ⟨e, hu⟩ : ∃ e, P.underlying t = some (.slice e) := by unfold kindT at hk; split at hk <;> simp_all
  subst hb
  unfold nilB at h
  split at h
  · cases h
    exact ⟨_, rfl, fun w => by rw [eqGuard_at_slice]; simp only [Sem.run_bind, Sem.run_pure, Result.andThen_ok, binOp, run_equal_slice_nil w t e a n c hu]⟩
  · cases h
    exact ⟨_, rfl, fun w => by rw [eqGuard_at_slice]; simp only [Sem.run_bind, Sem.run_pure, Result.andThen_ok]; exact run_neq_slice_nil w t e a n c hu⟩
  · cases h
theorem bool_eql (t : TypeId) (p q : Bool) : binOp .eql t (.bool p) (.bool q) = (do pure (.bool (← Op.equal t (.bool p) (.bool q)))) := rfl
theorem bool_neq (t : TypeId) (p q : Bool) : binOp .neq t (.bool p) (.bool q) = (do pure (.bool (!(← Op.equal t (.bool p) (.bool q))))) := rfl
theorem stepPure_sound (hr : Rep w0 M g s a w) {o : Oper} {d : D} (h : stepPure P s o.op = some d) :
    ∃ v, Rd (view w M g s.n) d v ∧ ∀ w', Below w.heap.size w w' → (execOp a.eval o).run P w' = .ok (.value v) w' := by
  unfold stepPure at h
  split at h
  case h_1 x ho => cases h; exact ⟨_, hr.ev x, fun w' _ => by simp [execOp, ho]⟩
  case h_2 x ho => cases h; exact ⟨_, hr.ev x, fun w' _ => by simp [execOp, ho]⟩
  case h_3 c x y ho =>
    have hc := hr.ev c
    split at h
    · rename_i t hc'
      rw [hc'] at hc
      generalize hce : a.eval c = vc at hc
      cases hc
      cases h
      refine ⟨if t then a.eval x else a.eval y, ?_, fun w' _ => by simp [execOp, ho, hce, asBool]⟩
      cases t
      · exact hr.ev y
      · exact hr.ev x
    · cases h
  case h_4 op t x y t' ho =>
    have hx := hr.ev x
    have hy := hr.ev y
    split at h
    · rename_i p q hp hq
      rw [hp] at hx; rw [hq] at hy
      generalize hxe : a.eval x = vx at hx
      generalize hye : a.eval y = vy at hy
      cases hx; cases hy
      split at h
      · rename_i hk
        have hu : P.underlying t = some .bool := by unfold kindT at hk; split at hk <;> simp_all
        split at h
        · cases h
          exact ⟨_, .sc _, fun w' _ => by
            simp only [execOp, ho, hxe, hye]
            refine run_value ?_
            rw [eqGuard_at_bool]
            have := run_equal_bool (P := P) (w := w') t p q hu
            simp only [Sem.run_bind, Sem.run_pure, Result.andThen_ok, bool_eql, this]⟩
        · cases h
          exact ⟨_, .sc _, fun w' _ => by
            simp only [execOp, ho, hxe, hye]
            refine run_value ?_
            rw [eqGuard_at_bool]
            have := run_equal_bool (P := P) (w := w') t p q hu
            simp only [Sem.run_bind, Sem.run_pure, Result.andThen_ok, bool_neq, this]
            rfl⟩
        · cases h
      · cases h
    · rename_i ad nn cc hp hq
      rw [hp] at hx; rw [hq] at hy
      generalize hxe : a.eval x = vx at hx
      generalize hye : a.eval y = vy at hy
      cases hx; cases hy
      split at h
      · rename_i hk
        obtain ⟨v, rfl, hv⟩ := nilB_run h hk ad nn cc rfl x y
        exact ⟨v, .sc v, fun w' _ => by
          simp only [execOp, ho, hxe, hye]
          exact run_value (hv w')⟩
      · cases h
    · rename_i p q hne hne' hp hq
      rw [hp] at hx; rw [hq] at hy
      generalize hxe : a.eval x = vx at hx
      generalize hye : a.eval y = vy at hy
      cases hx; cases hy
      simp only [Option.map_eq_some_iff] at h
      obtain ⟨r, hr', rfl⟩ := h
      exact ⟨r, .sc r, fun w' _ => by
        have := binV_run (P := P) hr' t x y w'
        simp only [execOp, ho, hxe, hye]
        exact run_value this⟩
    · rename_i hp hq
      rw [hp] at hx; rw [hq] at hy
      generalize hxe : a.eval x = vx at hx
      generalize hye : a.eval y = vy at hy
      cases hy
      split at h
      · rename_i hk
        cases hx with | sl _ _ b o cap us hc hm hl h1 h2 =>
        obtain ⟨v, rfl, hv⟩ := nilB_run h hk (some ⟨b, o, none⟩) _ cap rfl x y
        exact ⟨v, .sc v, fun w' _ => by
          simp only [execOp, ho, hxe, hye]
          exact run_value (hv w')⟩
      · cases h
    · rename_i hp hq
      rw [hp] at hx; rw [hq] at hy
      generalize hxe : a.eval x = vx at hx
      generalize hye : a.eval y = vy at hy
      cases hy
      split at h
      · rename_i hk
        cases hx with | ms _ _ _ ad cap hg hx =>
        obtain ⟨v, rfl, hv⟩ := nilB_run h hk (some ad) _ cap rfl x y
        exact ⟨v, .sc v, fun w' _ => by
          simp only [execOp, ho, hxe, hye]
          exact run_value (hv w')⟩
      · cases h
    · cases h
  case h_5 op t x ho =>
    have hx := hr.ev x
    split at h
    · rename_i u hu
      rw [hu] at hx
      generalize hxe : a.eval x = vx at hx
      cases hx
      simp only [Option.map_eq_some_iff] at h
      obtain ⟨r, hr', rfl⟩ := h
      exact ⟨r, .sc r, fun w' _ => by
        have := unV_run (P := P) hr' w'
        simp only [execOp, ho, hxe]
        exact run_value this⟩
    · cases h
  case h_6 x i ho =>
    have hx := hr.ev x
    split at h
    · rename_i ds hu
      rw [hu] at hx
      generalize hxe : a.eval x = vx at hx
      cases hx with | tp _ vs hl hv =>
      obtain ⟨v, h1, h2⟩ := Rd.at_list hl hv h
      exact ⟨v, h2, fun w' _ => by simp [execOp, ho, hxe, Instr.extract, h1]⟩
    · cases h
  case h_7 t x f ho =>
    have hx := hr.ev x
    split at h
    · rename_i ds ft off hu hf
      rw [hu] at hx
      generalize hxe : a.eval x = vx at hx
      cases hx with | ag _ vs hl hv =>
      obtain ⟨v, h1, h2⟩ := part_sound hl hv h
      unfold fieldTy at hf
      split at hf
      · rename_i fs hfs
        simp only [Option.map_eq_some_iff, Prod.mk.injEq] at hf
        obtain ⟨fd, hfd, e1, e2⟩ := hf
        refine ⟨v, h1, fun w' _ => ?_⟩
        simp only [execOp, ho, hxe]
        refine run_value ?_
        simp [Instr.field, run_underlying hfs, hfd, asAgg, e1, e2, h2]
      · cases hf
    · cases h
  case h_8 t x i ho =>
    obtain ⟨v, h1, h2⟩ := index_sound h (hr.ev x) (hr.ev i)
    exact ⟨v, h1, fun w' _ => by simp only [execOp, ho]; exact run_value (h2 w')⟩
  case h_9 t x i ho =>
    obtain ⟨v, h1, h2⟩ := indexAddr_sound h (hr.ev x) (hr.ev i)
    exact ⟨v, h1, fun w' _ => by simp only [execOp, ho]; exact run_value (h2 w')⟩
  case h_10 t x f ho =>
    obtain ⟨v, h1, h2⟩ := fieldAddr_sound h (hr.ev x)
    exact ⟨v, h1, fun w' _ => by simp only [execOp, ho]; exact run_value (h2 w')⟩
  case h_11 t x ho =>
    obtain ⟨v, h1, h2⟩ := load_sound hr h
    exact ⟨v, h1, fun w' hb => by simp only [execOp, ho]; exact run_value (h2 w' hb)⟩
  case h_12 x ho =>
    have hx := hr.ev x
    split at h
    all_goals first
      | (cases h; done)
      | (rename_i hu; rw [hu] at hx; cases h; refine ⟨_, hx, fun w' _ => ?_⟩; generalize hxe : a.eval x = vx at hx; cases hx; simp [execOp, ho, hxe])
  case h_13 f first caps ho =>
    cases h
    obtain ⟨l1, r1⟩ := list_sound hr first.toList
    obtain ⟨l2, r2⟩ := list_sound hr caps.toList
    refine ⟨_, .fn f _ _ _ _ l1 l2 r1 r2, fun w' _ => ?_⟩
    simp only [execOp, ho]
    refine run_value ?_
    simp only [Instr.makeFunc, Sem.run_pure, Result.ok.injEq, Value.func.injEq, true_and, and_true]
    constructor <;> (apply Array.ext'; simp)
  case h_14 src dst x ho =>
    have hx := hr.ev x
    split at h
    · rename_i k' n k hu hk hs
      rw [hu] at hx
      generalize hxe : a.eval x = vx at hx
      cases hx
      cases h
      have hd : P.underlying dst = some (.int k) := by unfold intT at hk; split at hk <;> simp_all
      obtain ⟨sd, hsd⟩ := Option.isSome_iff_exists.1 hs
      refine ⟨_, .sc _, fun w' _ => ?_⟩
      simp only [execOp, ho, hxe]
      refine run_value ?_
      cases sd <;> simp [convert, run_underlying hsd, run_underlying hd, Conv.intToInt]
    · cases h
  case h_15 c ho =>
    split at h
    · rename_i hcal
      split at h
      · rename_i x t hx ht
        obtain ⟨v, h1, h2⟩ := len_sound h (hr.ev x) o.type
        have e1 : c.args = #[x] := by apply Array.ext'; simpa using hx
        have e2 : c.argTypes = #[t] := by apply Array.ext'; simpa using ht
        refine ⟨v, h1, fun w' _ => ?_⟩
        simp [execOp, ho, resolve, hcal, e1, e2, invoke, builtin, h2 w']
      · cases h
    · rename_i hcal
      split at h
      · rename_i x t hx ht
        obtain ⟨v, h1, h2⟩ := cap_sound h (hr.ev x) o.type
        have e1 : c.args = #[x] := by apply Array.ext'; simpa using hx
        have e2 : c.argTypes = #[t] := by apply Array.ext'; simpa using ht
        refine ⟨v, h1, fun w' _ => ?_⟩
        simp [execOp, ho, resolve, hcal, e1, e2, invoke, builtin, h2 w']
      · cases h
    · cases h
  case h_16 => cases h

/-! ### Steps of the world -/
def upd {α : Type} (f : Nat → Option α) (t : Nat) (x : Option α) : Nat → Option α := fun i => if i = t then x else f i
theorem upd_same {α : Type} (f : Nat → Option α) (t : Nat) (x : Option α) : upd f t x t = x := by simp [upd]
theorem upd_ne {α : Type} (f : Nat → Option α) {t i : Nat} (x : Option α) (h : i ≠ t) : upd f t x i = f i := by simp [upd, h]

theorem lt_of_cell {w : World} {b o : Nat} {u : Value} (h : w.cell? ⟨b, o, none⟩ = some u) : b < w.heap.size := by
  rcases Nat.lt_or_ge b w.heap.size with h' | h'
  · exact h'
  · simp [World.cell?, Array.getElem?_eq_none h'] at h
theorem lt_of_heap {w : World} {b : Nat} {o : Obj} (h : w.heap[b]? = some o) : b < w.heap.size := by
  rcases Nat.lt_or_ge b w.heap.size with h' | h'
  · exact h'
  · simp [Array.getElem?_eq_none h'] at h
theorem cell_same {w w' : World} {b o : Nat} (h : w'.heap[b]? = w.heap[b]?) : w'.cell? ⟨b, o, none⟩ = w.cell? ⟨b, o, none⟩ := World.cell?_of_block (w := w) h

/-- The cells that are read stay; at most one object of the call's own turns. -/
theorem view_ext {w w' : World} {M : Nat → Prop} {g g' : Nat → Option (Nat × Nat × Nat)} {n n' : Nat → Nat} {b' : Nat} (hn : ∀ s, n s ≤ n' s)
    (hsame : ∀ k, k < w.heap.size → k ≠ b' → w'.heap[k]? = w.heap[k]?) (hb : w.heap.size ≤ b' ∨ ∃ s x c, g s = some (x, b', c))
    (hg : ∀ s x b c, g' s = some (x, b, c) → g s = some (x, b, c) ∨ (b = b' ∧ n s ≤ x)) : (view w M g n).Ext (view w' M g' n') := by
  refine ⟨fun b o u h => ?_, hn, fun s x b c hx h => ?_⟩
  · have hc := view_cell h
    obtain ⟨h1, h2⟩ := view_free h
    have hne : b ≠ b' := by
      rintro rfl
      rcases hb with hb | ⟨s, x, c, hb⟩
      · have := lt_of_cell hc; omega
      · exact h2 _ _ _ hb
    refine view_mk ((cell_same (hsame b (lt_of_cell hc) hne)).trans hc) h1 fun s x c k => ?_
    rcases hg s x b c k with k | ⟨k, _⟩
    · exact h2 _ _ _ k
    · exact hne k
  · rcases hg s x b c h with k | ⟨_, k⟩
    · exact k
    · have : x < n s := hx
      omega

theorem ObOk.mono {V V' : View} {w w' : World} {t : Nat} {ob : Ob} (h : ObOk V w t ob) (hx : V.Ext V') (hg : ∀ x b c, V.g t = some (x, b, c) → V'.g t = some (x, b, c) ∧ w'.heap[b]? = w.heap[b]?) : ObOk V' w' t ob := by
  obtain ⟨h1, b, c, vs, h2, h3, h4, h5, h6, h7⟩ := h
  obtain ⟨e1, e2⟩ := hg _ _ _ h2
  exact ⟨Nat.lt_of_lt_of_le h1 (hx.n _), b, c, vs, e1, h3.mono e2, h4, h5, h6, fun j d hd => let ⟨u, k1, k2⟩ := h7 j d hd; ⟨u, k1, k2.mono hx⟩⟩

/-- New blocks: what was known is known. -/
theorem Rep.grow (h : Rep w0 M g s a w) {w' : World} (hb : Below w.heap.size w w') : Rep w0 M g s a w' := by
  have hx : (view w M g s.n).Ext (view w' M g s.n) := view_ext (b' := w.heap.size) (fun _ => Nat.le_refl _) (fun k hk _ => hb.block k hk) (.inl (Nat.le_refl _)) (fun _ _ _ _ e => .inl e)
  exact ⟨h.defers, h.size, fun i => (h.env i).mono hx, fun t ob ht => (h.obj t ob ht).mono hx fun x b c e => ⟨e, hb.block b (h.base _ _ _ _ e).2⟩,
    fun t x b c e => ⟨(h.base t x b c e).1, Nat.lt_of_lt_of_le (h.base t x b c e).2 hb.size⟩, h.inj,
    h.below.step hb.os hb.tape hb.output hb.size (fun k hk => hb.block k (Nat.lt_of_lt_of_le (Bs.not_own hk) h.below.size)), fun b k => ⟨Nat.lt_of_lt_of_le (h.m0 b k).1 hb.size, (h.m0 b k).2⟩, h.mm, h.zm, tree_keep h fun b k => hb.block b (h.m0 b k).1, h.nd, h.og⟩

theorem Act.put_size (a : Act) (o : Option Nat) (v : Value) : (a.put o v).tmps.size = a.tmps.size := by cases o <;> simp [Act.put]
theorem Act.put_defers (a : Act) (o : Option Nat) (v : Value) : (a.put o v).defers = a.defers := by cases o <;> simp [Act.put]

theorem Rep.put (h : Rep w0 M g s a w) {d : D} {v : Value} (hd : Rd (view w M g s.n) d v) (o : Option Nat) : Rep w0 M g (s.put o d) (a.put o v) w := by
  cases o with
  | none => exact h
  | some t =>
    by_cases ht : t < s.nt
    · have e : s.put (some t) d = { s with env := setE s.env t d } := by simp [St.put, ht]
      rw [e]
      refine ⟨h.defers, by rw [Act.put_size]; exact h.size, fun i => ?_, h.obj, h.base, h.inj, h.below, h.m0, h.mm, h.zm, h.tree, h.nd, h.og⟩
      show Rd _ (if i = t then d else s.env i) _
      by_cases hi : i = t
      · subst hi
        have hs : i < a.tmps.size := by rw [h.size]; exact ht
        simpa [Act.put, Array.getD_eq_getD_getElem?, hs] using hd
      · have := h.env i
        have e2 : (a.put (some t) v).tmps.getD i undef = a.tmps.getD i undef := by
          simp [Act.put, Array.getD_eq_getD_getElem?, Ne.symm hi]
        rw [e2, if_neg hi]
        exact this
    · have e : s.put (some t) d = s := by simp [St.put, ht]
      have e2 : a.put (some t) v = a := by
        have : ¬ t < a.tmps.size := by rw [h.size]; exact ht
        simp [Act.put, Array.setIfInBounds, this]
      rw [e, e2]
      exact h

/-- What is known stays known when an object is made, or turns to another block. -/
theorem Rep.rebind_ext {w' : World} (t0 t b' c' : Nat)
    (hsame : ∀ k, k < w.heap.size → k ≠ b' → w'.heap[k]? = w.heap[k]?) (hb' : w.heap.size ≤ b' ∨ ∃ x c, g t0 = some (x, b', c)) :
    (view w M g s.n).Ext (view w' M (upd (upd g t0 none) t (some (s.n t, b', c'))) (bump s.n t)) := by
  have old : ∀ s' y, s' ≠ t → upd (upd g t0 none) t (some (s.n t, b', c')) s' = some y → s' ≠ t0 ∧ g s' = some y := by
    intro s' y hs e
    rw [upd_ne _ _ hs] at e
    by_cases h0 : s' = t0
    · subst h0; rw [upd_same] at e; cases e
    · rw [upd_ne _ _ h0] at e; exact ⟨h0, e⟩
  refine view_ext (b' := b') (bump_le _ _) hsame ?_ ?_
  · rcases hb' with e | ⟨x, c, e⟩
    · exact .inl (by omega)
    · exact .inr ⟨_, _, _, e⟩
  · intro s' x b c e
    by_cases hs : s' = t
    · subst hs; rw [upd_same] at e; cases e; exact .inr ⟨rfl, Nat.le_refl _⟩
    · exact .inl (old _ _ hs e).2
/-- An object is made, or turns to another block or to other cells, under another slot. -/
theorem Rep.rebind_at (h : Rep w0 M g s a w) {w' : World} (t0 t b' c' : Nat) (vs : Array Value) (ob : Ob) (hgen : ob.gen = s.n t)
    (hsame : ∀ k, k < w.heap.size → k ≠ b' → w'.heap[k]? = w.heap[k]?) (hb' : w.heap.size ≤ b' ∨ ∃ x c, g t0 = some (x, b', c))
    (hlt : b' < w'.heap.size) (hheap : HeapIs w' b' ob vs) (hsz : ob.keys = none → vs.size = c' * ob.sz) (hc : c' ≤ maxLen) (hlen : ob.cells.length ≤ vs.size)
    (hcells : ∀ (j : Nat) (d : D), ob.cells[j]? = some d → ∃ u, vs[j]? = some u ∧ Rd (view w' M (upd (upd g t0 none) t (some (s.n t, b', c'))) (bump s.n t)) d u)
    (hos : w'.os = w.os) (htape : w'.tape = w.tape) (hout : w'.output = w.output) (hsize : w.heap.size ≤ w'.heap.size) :
    Rep w0 M (upd (upd g t0 none) t (some (s.n t, b', c'))) { s with H := upd (upd s.H t0 none) t (some ob), n := bump s.n t } a w' := by
  have old : ∀ s' y, s' ≠ t → upd (upd g t0 none) t (some (s.n t, b', c')) s' = some y → s' ≠ t0 ∧ g s' = some y := by
    intro s' y hs e
    rw [upd_ne _ _ hs] at e
    by_cases h0 : s' = t0
    · subst h0; rw [upd_same] at e; cases e
    · rw [upd_ne _ _ h0] at e; exact ⟨h0, e⟩
  have hx := Rep.rebind_ext (M := M) (s := s) t0 t b' c' hsame hb'
  have hbase : w0.own b' := by
    rcases hb' with e | ⟨x, c, e⟩
    · have := h.below.size; exact .inl (by omega)
    · exact (h.base _ _ _ _ e).1
  have hMb : ∀ b, M b → b ≠ b' := by
    rintro b k rfl
    rcases hb' with e | ⟨x, c, e⟩
    · have := (h.m0 b k).1; omega
    · exact (h.m0 b k).2 _ _ _ e
  have hother : ∀ t' x b c, t' ≠ t0 → g t' = some (x, b, c) → b ≠ b' := by
    intro t' x b c hne e hbb
    subst hbb
    rcases hb' with e' | ⟨x', c', e'⟩
    · have := (h.base _ _ _ _ e).2; omega
    · exact hne (h.inj _ _ _ _ _ _ _ e e')
  refine ⟨h.defers, h.size, fun i => (h.env i).mono hx, fun t' ob' ht' => ?_, fun t' x b c e => ?_, fun t1 t2 x b c x' c' e1 e2 => ?_, ?_, fun b k => ⟨Nat.lt_of_lt_of_le (h.m0 b k).1 hsize, fun t' x c e => ?_⟩, h.mm, h.zm, tree_keep (s := s) h fun b k => hsame b (h.m0 b k).1 (hMb b k), h.nd, fun x e => ⟨Nat.le_trans (h.og x e).1 (bump_le _ _ _), fun b c e' => ?_⟩⟩
  · by_cases hs : t' = t
    · subst hs
      simp only [upd_same, Option.some.injEq] at ht'
      subst ht'
      exact ⟨by show ob.gen < bump s.n t' t'; rw [bump_same]; omega, b', c', vs, by show upd _ t' _ t' = _; rw [upd_same, hgen], hheap, hsz, hc, hlen, hcells⟩
    · simp only [upd_ne _ _ hs] at ht'
      by_cases h0 : t' = t0
      · subst h0; rw [upd_same] at ht'; cases ht'
      · rw [upd_ne _ _ h0] at ht'
        refine (h.obj t' ob' ht').mono hx fun x b c e => ⟨?_, ?_⟩
        · show upd _ t _ t' = _; rw [upd_ne _ _ hs, upd_ne _ _ h0]; exact e
        · exact hsame b (h.base _ _ _ _ e).2 (hother _ _ _ _ h0 e)
  · by_cases hs : t' = t
    · subst hs; rw [upd_same] at e; cases e; exact ⟨hbase, hlt⟩
    · have e := (old _ _ hs e).2; exact ⟨(h.base _ _ _ _ e).1, Nat.lt_of_lt_of_le (h.base _ _ _ _ e).2 hsize⟩
  · by_cases hs1 : t1 = t
    · by_cases hs2 : t2 = t
      · rw [hs1, hs2]
      · subst hs1
        rw [upd_same] at e1; cases e1
        obtain ⟨n2, k2⟩ := old _ _ hs2 e2
        exact absurd rfl (hother _ _ _ _ n2 k2)
    · obtain ⟨n1, k1⟩ := old _ _ hs1 e1
      by_cases hs2 : t2 = t
      · subst hs2
        rw [upd_same] at e2; cases e2
        exact absurd rfl (hother _ _ _ _ n1 k1)
      · exact h.inj _ _ _ _ _ _ _ k1 (old _ _ hs2 e2).2
  · exact h.below.step hos htape hout hsize fun k hk => hsame k (Nat.lt_of_lt_of_le (Bs.not_own hk) h.below.size) (fun e => hk (by rw [e]; exact hbase))
  · by_cases hs : t' = t
    · subst hs; rw [upd_same] at e; cases e; exact hMb _ k rfl
    · exact (h.m0 b k).2 _ _ _ (old _ _ hs e).2
  · by_cases hs : 0 = t
    · subst hs; rw [upd_same] at e'; have := (h.og x e).1; simp only [Option.some.injEq, Prod.mk.injEq] at e'; omega
    · exact (h.og x e).2 _ _ (old _ _ hs e').2

/-- An object is made, or turns to another block or to other cells, under another slot. -/
theorem Rep.rebind (h : Rep w0 M g s a w) {w' : World} (t0 t b' c' : Nat) (vs : Array Value) (ob : Ob) (hgen : ob.gen = s.n t)
    (hsame : ∀ k, k < w.heap.size → k ≠ b' → w'.heap[k]? = w.heap[k]?) (hb' : w.heap.size ≤ b' ∨ ∃ x c, g t0 = some (x, b', c))
    (hlt : b' < w'.heap.size) (hheap : HeapIs w' b' ob vs) (hsz : ob.keys = none → vs.size = c' * ob.sz) (hc : c' ≤ maxLen) (hlen : ob.cells.length ≤ vs.size)
    (hcells : ∀ (j : Nat) (d : D), ob.cells[j]? = some d → ∃ u, vs[j]? = some u ∧ Rd (view w M g s.n) d u)
    (hos : w'.os = w.os) (htape : w'.tape = w.tape) (hout : w'.output = w.output) (hsize : w.heap.size ≤ w'.heap.size) :
    Rep w0 M (upd (upd g t0 none) t (some (s.n t, b', c'))) { s with H := upd (upd s.H t0 none) t (some ob), n := bump s.n t } a w' ∧
      (view w M g s.n).Ext (view w' M (upd (upd g t0 none) t (some (s.n t, b', c'))) (bump s.n t)) := by
  have hx := Rep.rebind_ext (M := M) (s := s) (c' := c') t0 t b' hsame hb'
  exact ⟨h.rebind_at t0 t b' c' vs ob hgen hsame hb' hlt hheap hsz hc hlen (fun j d hd => let ⟨u, k1, k2⟩ := hcells j d hd; ⟨u, k1, k2.mono hx⟩) hos htape hout hsize, hx⟩

/-- An object's cells are written. -/
theorem Rep.write (h : Rep w0 M g s a w) {w' : World} (t b' c' : Nat) (vs : Array Value) (ob ob' : Ob) (hob : s.H t = some ob) (hgt : g t = some (ob.gen, b', c')) (hgen : ob'.gen = ob.gen)
    (hsame : ∀ k, k ≠ b' → w'.heap[k]? = w.heap[k]?)
    (hheap : HeapIs w' b' ob' vs) (hsz : ob'.keys = none → vs.size = c' * ob'.sz) (hc : c' ≤ maxLen) (hlen : ob'.cells.length ≤ vs.size)
    (hcells : ∀ (j : Nat) (d : D), ob'.cells[j]? = some d → ∃ u, vs[j]? = some u ∧ Rd (view w M g s.n) d u)
    (hos : w'.os = w.os) (htape : w'.tape = w.tape) (hout : w'.output = w.output) (hsize : w'.heap.size = w.heap.size) :
    Rep w0 M g { s with H := upd s.H t (some ob') } a w' ∧ (view w M g s.n).Ext (view w' M g s.n) := by
  have hx : (view w M g s.n).Ext (view w' M g s.n) := view_ext (b' := b') (fun _ => Nat.le_refl _) (fun k _ hk => hsame k hk) (.inr ⟨_, _, _, hgt⟩) (fun _ _ _ _ e => .inl e)
  refine ⟨⟨h.defers, h.size, fun i => (h.env i).mono hx, fun t' ob'' ht' => ?_, fun t' x b c e => ?_, h.inj, ?_, fun b k => ⟨by rw [hsize]; exact (h.m0 b k).1, (h.m0 b k).2⟩, h.mm, h.zm, tree_keep (s := s) h fun b k => hsame b (by rintro rfl; exact (h.m0 b k).2 _ _ _ hgt), h.nd, h.og⟩, hx⟩
  · by_cases hs : t' = t
    · subst hs
      simp only [upd_same, Option.some.injEq] at ht'
      subst ht'
      exact ⟨by rw [hgen]; exact (h.obj _ _ hob).gen, b', c', vs, by show g t' = _; rw [hgt, hgen], hheap, hsz, hc, hlen, fun j d hd => let ⟨u, k1, k2⟩ := hcells j d hd; ⟨u, k1, k2.mono hx⟩⟩
    · simp only [upd_ne _ _ hs] at ht'
      refine (h.obj t' ob'' ht').mono hx fun x b c e => ⟨e, hsame b ?_⟩
      rintro rfl
      exact hs (h.inj _ _ _ _ _ _ _ e hgt)
  · rw [hsize]; exact h.base t' x b c e
  · have hb := (h.base _ _ _ _ hgt).1
    exact h.below.step hos htape hout (Nat.le_of_eq hsize.symm) fun k hk => hsame k (fun e => hk (by rw [e]; exact hb))
end
end Go.Fw
