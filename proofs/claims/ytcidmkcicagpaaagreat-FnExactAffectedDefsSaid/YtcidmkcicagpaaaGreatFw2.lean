/-
  Values without memory: the operations that make or write memory, calls, statements, loops; a function's contract over data follows from its walk over data. No condition.
-/
import Derived.Test.YtcidmkcicagpaaaGreatFw1
import Derived.LoopN
import Derived.Laws.CopyRow
import Derived.MapKept
import Derived.Laws.BytesArg
namespace Go.Fw
open Go.RowKit

def cellsD : D → Option (List D)
  | .ag ds => some ds
  | .tp _ => none
  | .any => none
  | .sc v => some (v.cells.toList.map .sc)
  | .sl sz rows => some [.sl sz rows]
  | .cp ds => some [.cp ds]
  | .rf s g o => some [.rf s g o]
  | .ms s g l => some [.ms s g l]
  | .mp s g => some [.mp s g]
  | .fn f a b => some [.fn f a b]
def oneD : D → Bool
  | .ag _ => false
  | .tp _ => false
  | .any => false
  | .sc v => v.oneCell'
  | _ => true
theorem one_rd {V : View} {d : D} {v : Value} (h : oneD d = true) (k : Rd V d v) : v.oneCell' = true := by
  cases k <;> first | rfl | (simp [oneD] at h; done) | exact h
theorem cells_rd {V : View} {d : D} {v : Value} {cs : List D} (h : cellsD d = some cs) (k : Rd V d v) :
    cs.length = v.cells.size ∧ ∀ (j : Nat) (e : D), cs[j]? = some e → ∃ u, v.cells[j]? = some u ∧ Rd V e u := by
  have one : ∀ (e : D) (u : Value), v.cells = #[u] → cs = [e] → Rd V e u → cs.length = v.cells.size ∧ ∀ (j : Nat) (e : D), cs[j]? = some e → ∃ u, v.cells[j]? = some u ∧ Rd V e u := by
    intro e u hv hc hR
    rw [hv, hc]
    refine ⟨rfl, fun j e' hj => ?_⟩
    cases j with
    | zero => simp at hj; subst hj; exact ⟨u, by simp, hR⟩
    | succ j => simp at hj
  cases k with
  | sc v =>
    simp only [cellsD, Option.some.injEq] at h; subst h
    refine ⟨by simp, fun j e hj => ?_⟩
    rw [List.getElem?_map] at hj
    simp only [Option.map_eq_some_iff] at hj
    obtain ⟨u, hu, rfl⟩ := hj
    exact ⟨u, by simpa using hu, .sc u⟩
  | any v => cases h
  | nil sz => simp only [cellsD, Option.some.injEq] at h; exact one _ _ rfl h.symm (.nil sz)
  | emp sz a cap hm => simp only [cellsD, Option.some.injEq] at h; exact one _ _ rfl h.symm (.emp sz a cap hm)
  | sl sz rows b o cap us hc hm hl h1 h2 => simp only [cellsD, Option.some.injEq] at h; exact one _ _ rfl h.symm (.sl sz rows b o cap us hc hm hl h1 h2)
  | ag ds vs hl hv =>
    simp only [cellsD, Option.some.injEq] at h; subst h
    refine ⟨by simp [Value.cells, hl], fun j e hj => ?_⟩
    obtain ⟨u, k1, k2⟩ := Rd.at_list hl hv hj
    exact ⟨u, by simpa [Value.cells] using k1, k2⟩
  | tp => cases h
  | cp ds b o us h1 h2 => simp only [cellsD, Option.some.injEq] at h; exact one _ _ rfl h.symm (.cp ds b o us h1 h2)
  | rf s g o a hg hh => simp only [cellsD, Option.some.injEq] at h; exact one _ _ rfl h.symm (.rf s g o a hg hh)
  | ms s g len a cap hg hh => simp only [cellsD, Option.some.injEq] at h; exact one _ _ rfl h.symm (.ms s g len a cap hg hh)
  | mp s g b hg hh => simp only [cellsD, Option.some.injEq] at h; exact one _ _ rfl h.symm (.mp s g b hg hh)
  | fn f ds es vs us hl hl' hh hh' => simp only [cellsD, Option.some.injEq] at h; exact one _ _ rfl h.symm (.fn f ds es vs us hl hl' hh hh')

/-! ### Filling a row of cells -/
def setR (cells : List D) (off : Nat) (cs : List D) : List D := cells.take off ++ cs ++ cells.drop (off + cs.length)
theorem setR_length (cells cs : List D) (off : Nat) (h : off + cs.length ≤ cells.length) : (setR cells off cs).length = cells.length := by simp [setR]; omega
theorem setR_get (cells cs : List D) (off k : Nat) (h : off + cs.length ≤ cells.length) : (setR cells off cs)[k]? = if off ≤ k ∧ k < off + cs.length then cs[k - off]? else cells[k]? := by
  unfold setR
  have ht : (cells.take off).length = off := by simp; omega
  by_cases h1 : k < off
  · rw [if_neg (by omega), List.append_assoc, List.getElem?_append_left (by omega), List.getElem?_take, if_pos h1]
  · by_cases h2 : k < off + cs.length
    · rw [if_pos ⟨by omega, h2⟩, List.append_assoc, List.getElem?_append_right (by omega), ht, List.getElem?_append_left (by omega)]
    · rw [if_neg (by omega), List.getElem?_append_right (by simp; omega), List.getElem?_drop]
      congr 1; simp; omega

def fillD (place : Nat → Option (Nat × Nat)) : List D → List (Nat × D) → Option (List D)
  | cells, [] => some cells
  | cells, (i, d) :: rest =>
    match place i, cellsD d with
    | some (off, size), some cs => if cs.length = size ∧ off + cs.length ≤ cells.length then fillD place (setR cells off cs) rest else none
    | _, _ => none

theorem foldl_set (l : List Value) (off : Nat) : ∀ (n : Nat) (cur : Array Value), off + n + l.length ≤ cur.size →
    let r := (l.zipIdx n).foldl (fun cs (x : Value × Nat) => cs.setIfInBounds (off + x.2) x.1) cur
    r.size = cur.size ∧ ∀ k, r[k]? = if off + n ≤ k ∧ k < off + n + l.length then l[k - (off + n)]? else cur[k]? := by
  induction l with
  | nil => intro n cur _; simp; intro k h1 h2; omega
  | cons v l ih =>
    intro n cur h
    simp only [List.length_cons] at h
    obtain ⟨h1, h2⟩ := ih (n + 1) (cur.setIfInBounds (off + n) v) (by simp; omega)
    simp only [List.zipIdx_cons, List.foldl_cons]
    refine ⟨by rw [h1]; simp, fun k => ?_⟩
    rw [h2 k]
    by_cases a1 : k = off + n
    · subst a1
      rw [if_neg (by omega), if_pos (by simp)]
      simp [Array.getElem?_setIfInBounds]; omega
    · by_cases a2 : off + n ≤ k ∧ k < off + n + (l.length + 1)
      · rw [if_pos (by omega), if_pos (by simpa using a2)]
        obtain ⟨j, rfl⟩ : ∃ j, k = off + n + 1 + j := ⟨k - (off + n + 1), by omega⟩
        rw [show off + n + 1 + j - (off + (n + 1)) = j by omega, show off + n + 1 + j - (off + n) = j + 1 by omega]
        rfl
      · rw [if_neg (by omega), if_neg (by simpa using a2)]
        simp [Ne.symm a1]

theorem fill_sound {V : View} (place : Nat → Option (Nat × Nat)) : ∀ (ps : List (Nat × D)) (qs : List (Nat × Value)) (cells : List D) (vcells : Array Value) (r : List D),
    ps.map (·.1) = qs.map (·.1) → (∀ (i : Nat) (d : D) (v : Value), (ps.map (·.2))[i]? = some d → (qs.map (·.2))[i]? = some v → Rd V d v) →
    cells.length = vcells.size → (∀ (j : Nat) (d : D), cells[j]? = some d → ∃ u, vcells[j]? = some u ∧ Rd V d u) → fillD place cells ps = some r →
    ∃ vr, Instr.fill place vcells qs = some vr ∧ r.length = vr.size ∧ vr.size = vcells.size ∧ ∀ (j : Nat) (d : D), r[j]? = some d → ∃ u, vr[j]? = some u ∧ Rd V d u
  | [], qs, cells, vcells, r, hk, hd, hl, hc, h => by
    cases qs with
    | nil => simp only [fillD, Option.some.injEq] at h; subst h; exact ⟨vcells, rfl, hl, rfl, hc⟩
    | cons q qs => simp at hk
  | (i, d) :: ps, qs, cells, vcells, r, hk, hd, hl, hc, h => by
    cases qs with
    | nil => simp at hk
    | cons q qs =>
      obtain ⟨i', v⟩ := q
      simp only [List.map_cons, List.cons.injEq] at hk
      obtain ⟨rfl, hk⟩ := hk
      simp only [fillD] at h
      split at h
      · rename_i off size cs hp hcs
        split at h
        · rename_i hcond
          have hR : Rd V d v := hd 0 d v (by simp) (by simp)
          obtain ⟨hcl, hcc⟩ := cells_rd hcs hR
          obtain ⟨f1, f2⟩ := foldl_set v.cells.toList off 0 vcells (by simp only [Nat.add_zero, Array.length_toList]; omega)
          simp only [Nat.add_zero, Array.length_toList] at f1 f2
          obtain ⟨vr, g1, g2, g3, g4⟩ := fill_sound place ps qs (setR cells off cs) _ r hk (fun i d v h1 h2 => hd (i + 1) d v (by simpa using h1) (by simpa using h2))
            (by rw [setR_length _ _ _ hcond.2, f1, hl]) (fun j e hj => by
              rw [setR_get _ _ _ _ hcond.2] at hj
              rw [f2 j]
              by_cases hj2 : off ≤ j ∧ j < off + cs.length
              · rw [if_pos hj2] at hj
                obtain ⟨u, k1, k2⟩ := hcc _ _ hj
                rw [if_pos (by omega)]
                exact ⟨u, by simpa using k1, k2⟩
              · rw [if_neg hj2] at hj
                rw [if_neg (by omega)]
                exact hc j e hj) h
          refine ⟨vr, ?_, g2, by rw [g3, f1], g4⟩
          simp only [Instr.fill, hp]
          rw [if_neg (by simp; omega)]
          rw [← g1, ← Array.foldl_toList, Array.toList_zipIdx]
        · cases h
      · cases h

/-! ### Contracts over data -/
def callable (P : Program) (f : FuncId) : Prop := ∃ fn, P.funcs[f]? = some fn ∧ (fn.name == "runtime.NumGoroutine") = false ∧ fn.body.isNone = false

structure Sp (P : Program) (f : FuncId) (as : List D) (r : D) : Prop where
  ok : callable P f
  run : ∀ (w : World) (M : Nat → Prop) (vs : List Value), (∀ b, M b → b < w.heap.size) → as.length = vs.length →
    (∀ (i : Nat) (d : D) (v : Value), as[i]? = some d → vs[i]? = some v → Rd (view w M (fun _ => none) noN) d v) →
    Calls P f vs.toArray w fun e w' => ∃ v, e = .returned v ∧ Below w.heap.size w w' ∧ Rd (view w' M (fun _ => none) noN) r v

/-- What an object of the call's own reads as, once nobody writes it any more. -/
inductive Fz (H : Nat → Option Ob) : D → D → Prop
  | cl (d : D) (h : Cl d) : Fz H d d
  | nil (sz : Nat) : Fz H (.sc (.slice none 0 0)) (.sl sz [])
  | ms (s : Nat) (ob : Ob) (rows : List (List D)) (es : Nat → Nat → D) (hob : H s = some ob) (hks : ob.keys = none) (hsz : 0 < ob.sz) (hl : ∀ (i : Nat) (r : List D), rows[i]? = some r → r.length = ob.sz)
      (h1 : ∀ (i : Nat) (r : List D) (j : Nat) (d : D), rows[i]? = some r → r[j]? = some d → ob.cells[i * ob.sz + j]? = some (es i j))
      (h2 : ∀ (i : Nat) (r : List D) (j : Nat) (d : D), rows[i]? = some r → r[j]? = some d → Fz H (es i j) d) : Fz H (.ms s ob.gen rows.length) (.sl ob.sz rows)
  | rf (s : Nat) (ob : Ob) (off : Nat) (es : List D) (ds : Nat → D) (hob : H s = some ob) (hks : ob.keys = none) (h1 : ∀ (j : Nat) (e : D), es[j]? = some e → ob.cells[off + j]? = some (ds j))
      (h2 : ∀ (j : Nat) (e : D), es[j]? = some e → Fz H (ds j) e) : Fz H (.rf s ob.gen off) (.cp es)
  | fn (f : FuncId) (as bs cs ds : List D) (hl : as.length = bs.length) (hl' : cs.length = ds.length) (h : ∀ (i : Nat) (d e : D), as[i]? = some d → bs[i]? = some e → Fz H d e)
      (h' : ∀ (i : Nat) (d e : D), cs[i]? = some d → ds[i]? = some e → Fz H d e) : Fz H (.fn f as cs) (.fn f bs ds)
  | ag (ds es : List D) (hl : ds.length = es.length) (h : ∀ (i : Nat) (d e : D), ds[i]? = some d → es[i]? = some e → Fz H d e) : Fz H (.ag ds) (.ag es)
  | tp (ds es : List D) (hl : ds.length = es.length) (h : ∀ (i : Nat) (d e : D), ds[i]? = some d → es[i]? = some e → Fz H d e) : Fz H (.tp ds) (.tp es)

section
variable {P : Program} {w0 : Bs} {M : Nat → Prop} {g : Nat → Option (Nat × Nat × Nat)} {s : St} {a : Act} {w : World}

theorem view_sub {n : Nat → Nat} (b o : Nat) (u : Value) (h : (view w M g n).C b o = some u) : (view w M (fun _ => none) noN).C b o = some u :=
  view_mk (view_cell h) (view_free h).1 (by simp)

theorem Rd.freeze (hr : Rep w0 M g s a w) {d e : D} (hf : Fz s.H d e) : ∀ {v : Value}, Rd (view w M g s.n) d v → Rd (view w M (fun _ => none) noN) e v := by
  induction hf with
  | cl d h => intro v hv; exact hv.closed view_sub h
  | nil sz => intro v hv; cases hv; exact .nil sz
  | ms t ob rows es hob hks hsz hl h1 h2 ih =>
    intro v hv
    obtain ⟨hg, b, c, vs, hgt, hheap, hvs, hc, hlen, hcells⟩ := hr.obj t ob hob
    have hvs := hvs hks
    have hheap := hheap.cells hks
    cases hv with | ms _ _ _ ad cap _ hv =>
    obtain ⟨rfl, rfl⟩ := hv b c hgt
    have hM : ¬ M b := fun k => (hr.m0 b k).2 _ _ _ hgt
    have hcell : ∀ (i : Nat) (r : List D) (j : Nat) (d : D), rows[i]? = some r → r[j]? = some d → ∃ u, vs[i * ob.sz + j]? = some u ∧ Rd (view w M g s.n) (es i j) u :=
      fun i r j d hi hj => hcells _ _ (h1 i r j d hi hj)
    refine .sl ob.sz rows b 0 cap (fun i j => vs.getD (i * ob.sz + j) undef) ?_ hc hl (fun i r j d hi hj => ?_) (fun i r j d hi hj => ?_)
    · cases hr' : rows.length with
      | zero => exact Nat.zero_le _
      | succ k =>
        have hk : k < rows.length := by omega
        have hrow := List.getElem?_eq_getElem hk
        have hrl := hl k _ hrow
        have h0 : 0 < (rows[k]).length := by rw [hrl]; exact hsz
        obtain ⟨u, hu, _⟩ := hcell k _ 0 _ hrow (List.getElem?_eq_getElem h0)
        have hlt := (Array.getElem?_eq_some_iff.1 hu).1
        rw [hvs, Nat.add_zero] at hlt
        have := Nat.lt_of_mul_lt_mul_right hlt
        omega
    · obtain ⟨u, hu, _⟩ := hcell i r j d hi hj
      refine view_mk ?_ hM (by simp)
      rw [cell_of_block hheap, Nat.zero_add, hu]; simp [Array.getD_eq_getD_getElem?, hu]
    · obtain ⟨u, hu, hR⟩ := hcell i r j d hi hj
      have := ih i r j d hi hj hR
      simpa [Array.getD_eq_getD_getElem?, hu] using this
  | rf t ob off es ds hob hks h1 h2 ih =>
    intro v hv
    obtain ⟨hg, b, c, vs, hgt, hheap, hvs, hc, hlen, hcells⟩ := hr.obj t ob hob
    have hvs := hvs hks
    have hheap := hheap.cells hks
    cases hv with | rf _ _ _ ad _ hv =>
    have := hv b c hgt
    subst this
    have hM : ¬ M b := fun k => (hr.m0 b k).2 _ _ _ hgt
    have hcell : ∀ (j : Nat) (e : D), es[j]? = some e → ∃ u, vs[off + j]? = some u ∧ Rd (view w M g s.n) (ds j) u := fun j e he => hcells _ _ (h1 j e he)
    refine .cp es b off (fun j => vs.getD (off + j) undef) (fun j e he => ?_) (fun j e he => ?_)
    · obtain ⟨u, hu, _⟩ := hcell j e he
      refine view_mk ?_ hM (by simp)
      rw [cell_of_block hheap, hu]; simp [Array.getD_eq_getD_getElem?, hu]
    · obtain ⟨u, hu, hR⟩ := hcell j e he
      have := ih j e he hR
      simpa [Array.getD_eq_getD_getElem?, hu] using this
  | fn f as bs cs ds hl hl' _ _ ih ih' =>
    intro v hv
    cases hv with | fn _ _ _ us ws k1 k2 k3 k4 =>
    refine .fn f bs ds us ws (by omega) (by omega) (fun i e v he hv' => ?_) (fun i e v he hv' => ?_)
    · have hi : i < as.length := by have := (List.getElem?_eq_some_iff.1 he).1; omega
      exact ih i _ e (List.getElem?_eq_getElem hi) he (k3 i _ v (List.getElem?_eq_getElem hi) hv')
    · have hi : i < cs.length := by have := (List.getElem?_eq_some_iff.1 he).1; omega
      exact ih' i _ e (List.getElem?_eq_getElem hi) he (k4 i _ v (List.getElem?_eq_getElem hi) hv')
  | ag ds es hl h ih =>
    intro v hv
    cases hv with | ag _ vs hl' hv =>
    refine .ag es vs (by omega) fun i e v he hv' => ?_
    have hi : i < ds.length := by have := (List.getElem?_eq_some_iff.1 he).1; omega
    exact ih i _ e (List.getElem?_eq_getElem hi) he (hv i _ v (List.getElem?_eq_getElem hi) hv')
  | tp ds es hl h ih =>
    intro v hv
    cases hv with | tp _ vs hl' hv =>
    refine .tp es vs (by omega) fun i e v he hv' => ?_
    have hi : i < ds.length := by have := (List.getElem?_eq_some_iff.1 he).1; omega
    exact ih i _ e (List.getElem?_eq_getElem hi) he (hv i _ v (List.getElem?_eq_getElem hi) hv')

/-- A value of data that holds no memory is one value. -/
def scV : D → Option Value
  | .sc v => some v
  | _ => none
def detD : D → Option Value
  | .sc v => some v
  | .tp ds => (ds.mapM scV).map fun vs => .tuple vs.toArray
  | _ => none
theorem mapM_sc {V : View} : ∀ (ds : List D) (us vs : List Value), ds.mapM scV = some us → ds.length = vs.length →
    (∀ (i : Nat) (d : D) (v : Value), ds[i]? = some d → vs[i]? = some v → Rd V d v) → us = vs
  | [], us, vs, h, hl, _ => by
    simp at h; subst h
    cases vs with
    | nil => rfl
    | cons => simp at hl
  | d :: ds, us, vs, h, hl, hv => by
    cases vs with
    | nil => simp at hl
    | cons v vs =>
      rw [List.mapM_cons] at h
      simp only [Option.bind_eq_bind, Option.bind_eq_some_iff, Option.pure_def, Option.some.injEq] at h
      obtain ⟨u, hu, us', hus, rfl⟩ := h
      have h0 := hv 0 d v (by simp) (by simp)
      have ih := mapM_sc ds us' vs hus (by simpa using hl) (fun i d v h1 h2 => hv (i + 1) d v (by simpa using h1) (by simpa using h2))
      cases d <;> simp [scV] at hu
      subst hu
      cases h0
      rw [ih]
theorem det_rd {V : View} {d : D} {u v : Value} (h : detD d = some u) (k : Rd V d v) : v = u := by
  cases k <;> simp [detD] at h
  · exact h
  · rename_i ds vs hl hv
    obtain ⟨us, hus, rfl⟩ := h
    rw [mapM_sc ds us vs hus hl hv]
end

/-! ### Operations that make or write memory -/
def elemInfo (P : Program) (t : TypeId) : Option (TypeId × Nat × Nat) :=
  match P.underlying t with
  | some (.slice e) => match P.info? e with
    | some i => match i.zero with
      | some z => if z.cells.size = i.size ∧ 0 < i.size then some (e, i.size, i.bytes) else none
      | none => none
    | none => none
  | _ => none
theorem elemInfo_spec {P : Program} {t e : TypeId} {sz by' : Nat} (h : elemInfo P t = some (e, sz, by')) :
    ∃ i z, P.underlying t = some (.slice e) ∧ P.info? e = some i ∧ i.zero = some z ∧ z.cells.size = sz ∧ 0 < sz ∧ i.size = sz ∧ i.bytes = by' := by
  unfold elemInfo at h
  split at h
  · rename_i e' hu
    split at h
    · rename_i i hi
      split at h
      · rename_i z hz
        split at h
        · rename_i hc
          cases h
          exact ⟨i, z, hu, hi, hz, hc.1, hc.2, rfl, rfl⟩
        · cases h
      · cases h
    · cases h
  · cases h
def zeroD (P : Program) (t : TypeId) : Option (List D) := ((P.info? t).bind (·.zero)).map fun z => z.cells.toList.map .sc
def zeroRow (P : Program) (e : TypeId) : List D := (zeroD P e).getD []
def newOb (s : St) (t : Nat) (e : TypeId) (sz : Nat) (cells : List D) : St := { s with H := upd (upd s.H t none) t (some { gen := s.n t, elem := e, sz, cells }), n := bump s.n t }
def movOb (s : St) (t0 t : Nat) (e : TypeId) (sz : Nat) (cells : List D) : St := { s with H := upd (upd s.H t0 none) t (some { gen := s.n t, elem := e, sz, cells }), n := bump s.n t }
def newMap (s : St) (t : Nat) : St := { s with H := upd (upd s.H t none) t (some { gen := s.n t, elem := 0, sz := 1, cells := [], keys := some [] }), n := bump s.n t }
def fieldPlaces (P : Program) (t : TypeId) : Option (List (Nat × Nat)) :=
  match P.underlying t with
  | some (.struct fs) => fs.toList.mapM fun f => (szOf P f.type).map fun n => (f.offset, n)
  | _ => none
/-- a bound of a cut -/
def bndD (dflt : Int) : Option D → Option Int
  | none => some dflt
  | some (.sc (.int _ n)) => some n
  | _ => none
/-- a part of a string or of a slice that nobody writes -/
def sliceD (P : Program) (t : TypeId) (x : D) (lo hi : Option D) : Option D :=
  match x with
  | .sc (.string b) => match bndD 0 lo, bndD b.size hi with
    | some l, some h => if kindT P t = 0 ∧ 0 ≤ l ∧ l ≤ h ∧ h ≤ b.size then some (.sc (.string (b.extract l.toNat h.toNat))) else none
    | _, _ => none
  | .sl sz rows => match bndD 0 lo, bndD rows.length hi with
    | some l, some h => if elemSz P t = some sz ∧ 0 ≤ l ∧ l ≤ h ∧ h ≤ rows.length then some (.sl sz ((rows.take h.toNat).drop l.toNat)) else none
    | _, _ => none
  | .sc (.slice none 0 0) => match bndD 0 lo, bndD 0 hi with
    | some l, some h => if (elemSz P t).isSome = true ∧ l = 0 ∧ h = 0 then some (.sc (.slice none 0 0)) else none
    | _, _ => none
  | .ms sl g len => match bndD 0 lo, bndD len hi with
    | some l, some h => if (elemSz P t).isSome = true ∧ l = 0 ∧ 0 ≤ h ∧ h ≤ len then some (.ms sl g h.toNat) else none
    | _, _ => none
  | _ => none
/-- a map's kind of key and the zero of its values -/
def mapInfo (P : Program) (t : TypeId) : Option (TypeDesc × Value) :=
  match P.underlying t with
  | some (.map k e) => match P.underlying k, (P.info? e).bind (·.zero) with
    | some d, some z => some (d, z)
    | _, _ => none
  | _ => none
def keyB : TypeDesc → Value → Bool
  | .bool, .bool _ => true
  | .int k, .int k' _ => k' == k
  | .string, .string _ => true
  | _, _ => false
/-- where a key stands among keys -/
def findV (d : TypeDesc) (k : Value) : List Value → Option (Option Nat)
  | [] => some none
  | e :: es => match Instr.sameNow d k e with
    | some true => some (some 0)
    | some false => (findV d k es).map (·.map (· + 1))
    | none => none
def mapGet (z : Value) (ok : Bool) (cells : List D) : Option (Option Nat) → Option D
  | some none => some (if ok then .tp [.sc z, .sc (.bool false)] else .sc z)
  | some (some j) => match cells[j]? with
    | some c => some (if ok then .tp [c, .sc (.bool true)] else c)
    | none => none
  | none => none
def lookupD (P : Program) (s : St) (t : TypeId) (ok : Bool) : D → D → Option D
  | .mp sl gn, .sc kv => match mapInfo P t, s.H sl with
    | some (d, z), some ob => match ob.keys with
      | some ks => if ob.gen = gn ∧ keyB d kv = true then mapGet z ok ob.cells (findV d kv ks) else none
      | none => none
    | _, _ => none
  | _, _ => none
def putMap (s : St) (sl : Nat) (ob : Ob) (ks : List Value) (kv : Value) (dv : D) : Option (Option Nat) → Option (Prop × St)
  | some none => some (ob.cells.length = ks.length, { s with H := upd s.H sl (some { ob with keys := some (ks ++ [kv]), cells := ob.cells ++ [dv] }) })
  | some (some j) => some (True, { s with H := upd s.H sl (some { ob with cells := ob.cells.set j dv }) })
  | none => none
/-- bytes as a string -/
def byteT (P : Program) (t : TypeId) : Bool := match P.underlying t with | some (.slice e) => (match P.underlying e with | some (.int .u8) => true | _ => false) | _ => false
def bytesOf : List D → Option (List Int)
  | [] => some []
  | .sc (.int .u8 n) :: ds => (bytesOf ds).map (n :: ·)
  | _ => none
def bytesStr (len : Nat) (ds : List D) : Option D := match bytesOf (ds.take len) with | some ns => if ns.length = len then some (.sc (.string (strOfNums ns))) else none | none => none
def bytesD (P : Program) (s : St) (src dst : TypeId) : D → Option D
  | .ms t g len => if byteT P src = true ∧ kindT P dst = 0 then (match s.H t with | some ob => if ob.gen = g ∧ ob.keys = none then bytesStr len ob.cells else none | none => none) else none
  | .sl sz rows => if byteT P src = true ∧ kindT P dst = 0 ∧ sz = 1 then bytesStr rows.length rows.flatten else none
  | .sc (.slice none 0 0) => if byteT P src = true ∧ kindT P dst = 0 then some (.sc (.string ByteArray.empty)) else none
  | _ => none
def orD : Option D → Option D → Option D
  | some d, _ => some d
  | none, x => x
/-- the operations that touch no memory, composite values among them -/
def stepP (P : Program) (s : St) : Op → Option D
  | .build t parts => match fieldPlaces P t, zeroD P t with
    | some pl, some z => (fillD (fun i => pl[i]?) z (parts.toList.map fun x => (x.1, s.ev x.2))).map .ag
    | _, _ => none
  | .slice t x lo hi mx => match mx with | none => sliceD P t (s.ev x) (lo.map s.ev) (hi.map s.ev) | some _ => none
  | .lookup t x k ok => lookupD P s t ok (s.ev x) (s.ev k)
  | .convert src dst x => orD (bytesD P s src dst (s.ev x)) (stepPure P s (.convert src dst x))
  | .call c => match c.callee, c.args.toList with
    | .builtin .max, [x, y] => (match s.ev x, s.ev y with
      | .sc (.int k m), .sc (.int _ n) => some (.sc (.int k (if n > m then n else m)))
      | _, _ => none)
    | _, _ => stepPure P s (.call c)
  | op => stepPure P s op
/-- the row that an append copies: how many elements, their cells -/
def newsD (s : St) (e : TypeId) (sz : Nat) : D → Option (Nat × List D)
  | .sl sz' rows => if sz' = sz then some (rows.length, rows.flatten) else none
  | .ms t g m => match s.H t with
    | some ob => if ob.gen = g ∧ ob.sz = sz ∧ ob.cells.length = m * sz ∧ ob.elem = e ∧ ob.keys = none then some (m, ob.cells) else none
    | none => none
  | .sc (.slice (some _) 0 _) => some (0, [])
  | _ => none
def stepMem (P : Program) (mu : List Nat) (s : St) (t : Nat) : Op → Option (Prop × St × D)
  | .box e x => match cellsD (s.ev x) with
    | some cs => if t ∈ mu then some (True, newOb s t e cs.length cs, .rf t (s.n t) 0) else some (True, s, .cp cs)
    | none => none
  | .alloc e => match zeroD P e with
    | some cs => some (True, newOb s t e cs.length cs, .rf t (s.n t) 0)
    | none => none
  | .makeMap _ r => match r with
    | none => some (True, newMap s t, .mp t (s.n t))
    | some _ => none
  | .buildSlice ty len parts => match elemInfo P ty with
    | some (e, sz, _) => match fillD (fun i => some (i * sz, sz)) (List.replicate (len * sz) .any) (parts.toList.map fun x => (x.1, s.ev x.2)) with
      | some cs => some (len * sz ≤ 16777216, newOb s t e sz cs, .ms t (s.n t) len)
      | none => none
    | none => none
  | .makeSlice ty l c => match elemInfo P ty, s.ev l, s.ev c with
    | some (e, sz, by'), .sc (.int _ n), .sc (.int _ m) =>
      some (m = n ∧ 0 ≤ n ∧ (by' : Int) * n ≤ 281474976710656 ∧ n ≤ 9223372036854775807, newOb s t e sz (List.replicate n.toNat (zeroRow P e)).flatten, .ms t (s.n t) n.toNat)
    | _, _, _ => none
  | .call c => match c.callee, c.args.toList, c.argTypes.toList with
    | .builtin .append, [x, y], [ty, ty'] => match elemInfo P ty with
      | some (e, sz, by') => if ty' = ty then
          match s.ev x, s.ev y with
          | .ms t0 gn len, .sc (.slice none 0 0) => match s.H t0 with
            | some ob => if ob.gen = gn ∧ ob.sz = sz ∧ ob.cells.length = len * sz ∧ ob.elem = e ∧ ob.keys = none then some (True, s, .ms t0 gn len) else none
            | none => none
          | .sc (.slice none 0 0), .sc (.slice none 0 0) => some (True, s, .sc (.slice none 0 0))
          | .sc (.slice none 0 0), .sc (.slice (some _) 0 _) => some (True, s, .sc (.slice none 0 0))
          | .sc (.slice none 0 0), dy => match newsD s e sz dy with
            | some (m, cs) => some (cs.all oneD = true ∧ 0 < m ∧ m * by' ≤ 140737488355328 ∧ m ≤ maxLen, newOb s t e sz cs, .ms t (s.n t) m)
            | none => none
          | .ms t0 gn len, dy => match s.H t0, newsD s e sz dy with
            | some ob, some (m, cs) =>
              if ob.gen = gn ∧ ob.sz = sz ∧ ob.cells.length = len * sz ∧ ob.elem = e ∧ ob.keys = none then
                some (cs.all oneD = true ∧ (len + m) * by' ≤ 140737488355328 ∧ len + m ≤ maxLen, movOb s t0 t e sz (ob.cells ++ cs), .ms t (s.n t) (len + m))
              else none
            | _, _ => none
          | _, _ => none
        else match intT P ty', s.ev x, s.ev y with
          | some _, .sc (.slice none 0 0), .sc (.int _ n) => some (0 < n ∧ n.toNat * by' ≤ 140737488355328 ∧ n.toNat ≤ maxLen, newOb s t e sz (List.replicate n.toNat (zeroRow P e)).flatten, .ms t (s.n t) n.toNat)
          | _, _, _ => none
      | none => none
    | _, _, _ => none
  | _ => none
/-- a store -/
def stepStore (P : Program) (s : St) : Op → Option (Prop × St)
  | .store ty x y => match s.ev x, cellsD (s.ev y), szOf P ty with
    | .rf t gn off, some cs, some n => match s.H t with
      | some ob => if ob.gen = gn ∧ ob.keys = none then some (cs.length = n ∧ off + cs.length ≤ ob.cells.length ∧ cs.all oneD = true, { s with H := upd s.H t (some { ob with cells := setR ob.cells off cs }) }) else none
      | none => none
    | _, _, _ => none
  | .mapUpdate t m k v => match s.ev m, s.ev k, mapInfo P t with
    | .mp sl gn, .sc kv, some (d, _) => match s.H sl with
      | some ob => match ob.keys with
        | some ks => if ob.gen = gn ∧ keyB d kv = true then putMap s sl ob ks kv (s.ev v) (findV d kv ks) else none
        | none => none
      | none => none
    | _, _, _ => none
  | _ => none

section
variable {P : Program} {w0 : Bs} {M : Nat → Prop} {g : Nat → Option (Nat × Nat × Nat)} {s : St} {a : Act} {w : World}

theorem heap_new (w : World) (o : Obj) : (w.alloc o).heap[w.heap.size]? = some o := heap_alloc_new w o
theorem below_alloc (w : World) (o : Obj) : Below w.heap.size w (w.alloc o) := (Below.refl _ _).alloc (Nat.le_refl _) o
theorem below_drew_alloc (w : World) (o : Obj) : Below w.heap.size w (w.drew.alloc o) := ((Below.refl _ _).drew).alloc (Nat.le_refl _) o

/-- A new object. -/
theorem Rep.make (h : Rep w0 M g s a w) {w' : World} (t : Nat) (e : TypeId) (sz c : Nat) (cells : List D) (vs : Array Value) (hb : Below w.heap.size w w') (hnew : w'.heap[w.heap.size]? = some (.cells vs e (0, 0)))
    (hsz : vs.size = c * sz) (hc : c ≤ maxLen) (hlen : cells.length ≤ vs.size) (hcells : ∀ (j : Nat) (d : D), cells[j]? = some d → ∃ u, vs[j]? = some u ∧ Rd (view w M g s.n) d u) :
    ∃ g', Rep w0 M g' (newOb s t e sz cells) a w' ∧ (view w M g s.n).Ext (view w' M g' (bump s.n t)) ∧ g' t = some (s.n t, w.heap.size, c) := by
  obtain ⟨r1, r2⟩ := h.rebind (w' := w') t t w.heap.size c vs { gen := s.n t, elem := e, sz, cells } rfl (fun k hk _ => hb.block k hk) (.inl (Nat.le_refl _)) (lt_of_heap hnew) (.of hnew rfl) (fun _ => hsz) hc hlen hcells hb.os hb.tape hb.output hb.size
  exact ⟨_, r1, r2, upd_same _ _ _⟩

theorem parts_rd (hr : Rep w0 M g s a w) (l : List (Nat × Operand)) : (l.map fun x => (x.1, s.ev x.2)).map (·.1) = (l.map fun x => (x.1, a.eval x.2)).map (·.1) ∧
    ∀ (i : Nat) (d : D) (v : Value), ((l.map fun x => (x.1, s.ev x.2)).map (·.2))[i]? = some d → ((l.map fun x => (x.1, a.eval x.2)).map (·.2))[i]? = some v → Rd (view w M g s.n) d v := by
  refine ⟨by simp, fun i d v hd hv => ?_⟩
  simp only [List.map_map, List.getElem?_map] at hd hv
  cases hi : l[i]? with
  | none => rw [hi] at hd; cases hd
  | some x => rw [hi] at hd hv; cases hd; cases hv; exact hr.ev x.2

theorem zeroD_spec {t : TypeId} {cs : List D} (h : zeroD P t = some cs) : ∃ i z, P.info? t = some i ∧ i.zero = some z ∧ cs = z.cells.toList.map .sc := by
  unfold zeroD at h
  cases hi : P.info? t with
  | none => simp [hi] at h
  | some i =>
    simp only [hi, Option.bind_some, Option.map_eq_some_iff] at h
    obtain ⟨z, hz, rfl⟩ := h
    exact ⟨i, z, rfl, hz, rfl⟩
theorem sc_cells {V : View} (z : Array Value) (j : Nat) (d : D) (h : (z.toList.map D.sc)[j]? = some d) : ∃ u, z[j]? = some u ∧ Rd V d u := by
  rw [List.getElem?_map] at h
  simp only [Option.map_eq_some_iff] at h
  obtain ⟨u, hu, rfl⟩ := h
  exact ⟨u, by simpa using hu, .sc u⟩

theorem bnd_opt (hr : Rep w0 M g s a w) (x : Option Operand) : ∀ d, x.map s.ev = some d → ∃ v, x.map a.eval = some v ∧ Rd (view w M g s.n) d v := by
  intro d hd
  cases x with
  | none => cases hd
  | some x => cases hd; exact ⟨_, rfl, hr.ev x⟩
theorem sliceBound_run (k : IntKind) (i : Int) (y : Nat) (code : BoundsCode) (h0 : 0 ≤ i) (h1 : i ≤ y) (w' : World) : (Instr.sliceBound (.int k i) y code).run P w' = .ok i.toNat w' := by
  simp [Instr.sliceBound, asIntOf, h0, h1]
theorem sliceBounds_run (isS : Bool) (len cap : Nat) (l h : Int) (vlo vhi : Option Value) (hlo : (vlo = none ∧ l = 0) ∨ ∃ k, vlo = some (.int k l)) (hhi : (vhi = none ∧ h = len) ∨ ∃ k, vhi = some (.int k h))
    (c2 : 0 ≤ l) (c3 : l ≤ h) (c4 : h ≤ cap) (w' : World) : (Instr.sliceBounds isS len cap vlo vhi none).run P w' = .ok (l.toNat, h.toNat, cap) w' := by
  have hhn : ((h.toNat : Nat) : Int) = h := by omega
  rcases hlo with ⟨rfl, rfl⟩ | ⟨k, rfl⟩ <;> rcases hhi with ⟨rfl, rfl⟩ | ⟨k', rfl⟩
  · simp [Instr.sliceBounds]
  · simp only [Instr.sliceBounds, Sem.run_bind, Sem.run_pure, Result.andThen_ok, sliceBound_run k' h cap _ (by omega) c4]; rfl
  · simp only [Instr.sliceBounds, Sem.run_bind, Sem.run_pure, Result.andThen_ok, sliceBound_run k l len _ c2 (by omega)]; simp
  · simp only [Instr.sliceBounds, Sem.run_bind, Sem.run_pure, Result.andThen_ok, sliceBound_run k' h cap _ (by omega) c4, sliceBound_run k l h.toNat _ c2 (by omega)]
theorem slice_sound {V : View} {t : TypeId} {x : D} {lo hi : Option D} {vx : Value} {d : D} (h : sliceD P t x lo hi = some d) (hx : Rd V x vx) (vlo vhi : Option Value)
    (hlo : ∀ d, lo = some d → ∃ v, vlo = some v ∧ Rd V d v) (hhi : ∀ d, hi = some d → ∃ v, vhi = some v ∧ Rd V d v) (nlo : lo = none → vlo = none) (nhi : hi = none → vhi = none) :
    ∃ v, Rd V d v ∧ ∀ w' : World, (Instr.sliceAt t vx vlo vhi none).run P w' = .ok v w' := by
  have k0 : kindT P t = 0 → P.underlying t = some .string := fun e => by unfold kindT at e; split at e <;> simp_all
  have bnd : ∀ (dflt : Int) (b : Option D) (vb : Option Value) (n : Int), bndD dflt b = some n → (∀ d, b = some d → ∃ v, vb = some v ∧ Rd V d v) → (b = none → vb = none) → (vb = none ∧ n = dflt) ∨ ∃ k, vb = some (.int k n) := by
    intro dflt b vb n hb h1 h2
    unfold bndD at hb
    split at hb
    · cases hb; exact .inl ⟨h2 rfl, rfl⟩
    · obtain ⟨v, e, hv⟩ := h1 _ rfl
      cases hv; cases hb; exact .inr ⟨_, e⟩
    · cases hb
  unfold sliceD at h
  split at h
  · rename_i b
    cases hx
    split at h
    · rename_i l hh hl hh'
      split at h
      · rename_i hc
        obtain ⟨c1, c2, c3, c4⟩ := hc
        cases h
        refine ⟨_, .sc _, fun w' => ?_⟩
        have hu := k0 c1
        have hb := sliceBounds_run (P := P) false b.size b.size l hh vlo vhi (bnd 0 _ _ _ hl hlo nlo) (bnd _ _ _ _ hh' hhi nhi) c2 c3 c4 w'
        simp [Instr.sliceAt, Instr.slice, run_underlying hu, hb]
      · cases h
    · cases h
  · rename_i sz rows
    split at h
    · rename_i l hh hl hh'
      split at h
      · rename_i hc
        obtain ⟨c1, c2, c3, c4⟩ := hc
        cases h
        obtain ⟨e, hu, hsz⟩ := elemSz_spec c1
        cases hx with
        | nil =>
          have hb := fun w' => sliceBounds_run (P := P) true 0 0 l hh vlo vhi (bnd 0 _ _ _ hl hlo nlo) (bnd _ _ _ _ hh' hhi nhi) c2 c3 c4 w'
          have e0 : l.toNat = 0 ∧ hh.toNat = 0 := by simp only [List.length_nil] at c4; omega
          refine ⟨.slice none 0 0, by simpa using Rd.nil sz, fun w' => ?_⟩
          have := hb w'
          simp [e0] at this
          simp [Instr.sliceAt, Instr.slice, run_underlying hu, this, szOf_some hsz]
        | emp _ ad cap hm =>
          have hb := fun w' => sliceBounds_run (P := P) true 0 cap l hh vlo vhi (bnd 0 _ _ _ hl hlo nlo) (bnd _ _ _ _ hh' hhi nhi) c2 c3 (by simp only [List.length_nil] at c4; omega) w'
          have e0 : l.toNat = 0 ∧ hh.toNat = 0 := by simp only [List.length_nil] at c4; omega
          refine ⟨.slice (some ad) 0 cap, by simpa using Rd.emp sz ad cap hm, fun w' => ?_⟩
          have := hb w'
          simp only [e0] at this
          simp only [Instr.sliceAt, Instr.slice, Sem.run_bind, run_underlying hu, Result.andThen_ok, this, szOf_some hsz]
          split
          · simp
          · simp [Addr.add]
        | sl _ _ b o cap us hc hm hlr h1 h2 =>
          have hb := fun w' => sliceBounds_run (P := P) true rows.length cap l hh vlo vhi (bnd 0 _ _ _ hl hlo nlo) (bnd _ _ _ _ hh' hhi nhi) c2 c3 (by omega) w'
          have hlen : ((rows.take hh.toNat).drop l.toNat).length = hh.toNat - l.toNat := by simp; omega
          have hget : ∀ (i : Nat) (r : List D), ((rows.take hh.toNat).drop l.toNat)[i]? = some r → rows[l.toNat + i]? = some r := by
            intro i r hi
            rw [List.getElem?_drop, List.getElem?_take] at hi
            split at hi
            · exact hi
            · cases hi
          refine ⟨.slice (some ⟨b, if cap = l.toNat then o else o + l.toNat * sz, none⟩) (hh.toNat - l.toNat) (cap - l.toNat), ?_, fun w' => ?_⟩
          · rw [← hlen]
            refine .sl sz _ b _ _ (fun i j => us (l.toNat + i) j) (by omega) (by omega) (fun i r hi => hlr _ _ (hget i r hi)) (fun i r j d hi hj => ?_) (fun i r j d hi hj => h2 _ _ _ _ (hget i r hi) hj)
            have := h1 _ _ _ _ (hget i r hi) hj
            have hne : cap ≠ l.toNat := by
              intro e
              have := (List.getElem?_eq_some_iff.1 (hget i r hi)).1
              omega
            rw [if_neg hne]
            rw [Nat.add_mul] at this
            rw [show o + l.toNat * sz + i * sz + j = o + (l.toNat * sz + i * sz) + j by omega]
            exact this
          · have := hb w'
            simp only [Instr.sliceAt, Instr.slice, Sem.run_bind, run_underlying hu, Result.andThen_ok, this, szOf_some hsz]
            split
            · simp
            · simp [add_lit]
      · cases h
    · cases h
  · split at h
    · rename_i l0 h0 hl hh
      split at h
      · rename_i hc
        obtain ⟨hc, rfl, rfl⟩ := hc
        obtain ⟨sz, c1⟩ := Option.isSome_iff_exists.1 hc
        cases h
        cases hx
        obtain ⟨e, hu, hsz⟩ := elemSz_spec c1
        refine ⟨_, .sc _, fun w' => ?_⟩
        have hb := sliceBounds_run (P := P) true 0 0 0 0 vlo vhi (bnd 0 _ _ _ hl hlo nlo) (bnd 0 _ _ _ hh hhi nhi) (by omega) (by omega) (by omega) w'
        simp [Instr.sliceAt, Instr.slice, run_underlying hu, hb, szOf_some hsz]
      · cases h
    · cases h
  · rename_i sl gn len
    split at h
    · rename_i l0 hh hl hh'
      split at h
      · rename_i hc
        obtain ⟨c1, rfl, c2, c3⟩ := hc
        obtain ⟨sz, c1⟩ := Option.isSome_iff_exists.1 c1
        cases h
        obtain ⟨e, hu, hsz⟩ := elemSz_spec c1
        cases hx with | ms _ _ _ ad cap hg hx =>
        refine ⟨.slice (some ad) hh.toNat cap, .ms _ _ _ _ _ ⟨hg.1, by have := hg.2; omega⟩ hx, fun w' => ?_⟩
        have hb := sliceBounds_run (P := P) true len cap 0 hh vlo vhi (bnd 0 _ _ _ hl hlo nlo) (bnd _ _ _ _ hh' hhi nhi) (by omega) c2 (by have := hg.2; omega) w'
        simp only [Instr.sliceAt, Instr.slice, Sem.run_bind, run_underlying hu, Result.andThen_ok, hb, szOf_some hsz]
        split <;> simp [Addr.add_zero']
      · cases h
    · cases h
  · cases h

theorem keyB_key {d : TypeDesc} {v : Value} (h : keyB d v = true) : MapKept.IsKey d v := by
  cases d <;> cases v <;> simp_all [keyB, MapKept.IsKey]
theorem findV_now (d : TypeDesc) (k : Value) : ∀ (es : List MapEntry) (r : Option Nat), findV d k (es.map (·.key)) = some r →
    ∀ i, (r = none ∧ Instr.findNow d k es i = some none) ∨ ∃ j e, r = some j ∧ es[j]? = some e ∧ Instr.findNow d k es i = some (some (i + j, e.val)) ∧ Instr.sameNow d k e.key = some true
  | [], r, h, i => by simp only [List.map_nil, findV, Option.some.injEq] at h; exact .inl ⟨h.symm, rfl⟩
  | e :: es, r, h, i => by
    simp only [List.map_cons, findV] at h
    split at h
    · rename_i hs
      cases h
      exact .inr ⟨0, e, rfl, rfl, by simp [Instr.findNow, hs], hs⟩
    · rename_i hs
      simp only [Option.map_eq_some_iff] at h
      obtain ⟨r', hr', rfl⟩ := h
      rcases findV_now d k es r' hr' (i + 1) with ⟨rfl, h2⟩ | ⟨j, e', rfl, h2, h3, h4⟩
      · exact .inl ⟨rfl, by simp [Instr.findNow, hs, h2]⟩
      · exact .inr ⟨j + 1, e', rfl, by simpa using h2, by simp [Instr.findNow, hs, h3]; omega, h4⟩
    · cases h
theorem mapInfo_spec {P : Program} {t : TypeId} {d : TypeDesc} {z : Value} (h : mapInfo P t = some (d, z)) : ∃ k e i, P.underlying t = some (.map k e) ∧ P.underlying k = some d ∧ P.info? e = some i ∧ i.zero = some z := by
  unfold mapInfo at h
  split at h
  · rename_i k e hu
    split at h
    · rename_i d' z' hd hz
      cases h
      cases hi : P.info? e with
      | none => simp [hi] at hz
      | some i => exact ⟨k, e, i, hu, hd, hi, by simpa [hi] using hz⟩
    · cases h
  · cases h
theorem sameNow_bits {d : TypeDesc} {k e : Value} (h : Instr.sameNow d k e = some true) : e = k ∧ Instr.sameBits 10000 e k = true := by
  cases d <;> cases k <;> cases e <;> simp_all [Instr.sameNow, Instr.sameBits, MapKept.bytes_beq]
theorem lookup_sound (hr : Rep w0 M g s a w) {t : TypeId} {ok : Bool} {x k : Operand} {d : D} (h : lookupD P s t ok (s.ev x) (s.ev k) = some d) :
    ∃ v, Rd (view w M g s.n) d v ∧ ∀ w', Below w.heap.size w w' → (Instr.lookup t (a.eval x) (a.eval k) ok).run P w' = .ok v w' := by
  have hx := hr.ev x
  have hk := hr.ev k
  unfold lookupD at h
  split at h
  · rename_i sl gn kv hdx hdk
    rw [hdx] at hx; rw [hdk] at hk
    generalize a.eval x = vx at hx
    generalize a.eval k = vk at hk
    cases hk
    split at h
    · rename_i kd z ob hinf hob
      split at h
      · rename_i ks hks
        split at h
        · rename_i hc
          obtain ⟨hgen, hkey⟩ := hc
          obtain ⟨hg, b, c, vs, hgt, hheap, _, hcm, hlen, hcells⟩ := hr.obj sl ob hob
          cases hx with | mp _ _ b' _ hx =>
          have := hx b c (by rw [← hgen]; exact hgt)
          subst this
          obtain ⟨kt, et, i, hu, hkt, hi, hz⟩ := mapInfo_spec hinf
          unfold HeapIs at hheap
          rw [hks] at hheap
          obtain ⟨es, clock, hb, rfl, hvs⟩ := hheap
          have hzr : ∀ w' : World, (zeroValue et).run P w' = .ok z w' := fun w' => by simp [zeroValue, typeInfo, hi, hz]
          have hlook : ∀ w', Below w.heap.size w w' → ∀ r, (Instr.findNow kd kv es.toList 0 = some r) →
              (Instr.lookup t (.map (some b')) kv ok).run P w' = .ok (if ok then .tuple #[(r.map (·.2)).getD z, .bool r.isSome] else (r.map (·.2)).getD z) w' := fun w' hb' r hf => by
            have hblk : w'.heap[b']? = some (.map es clock) := by rw [hb'.block b' (Array.getElem?_eq_some_iff.1 hb).1]; exact hb
            simp only [Instr.lookup, Sem.run_bind, run_underlying hu, MapKept.run_getObj_map hblk, Sem.run_pure, Result.andThen_ok, MapKept.run_checkKey hkt (keyB_key hkey), MapKept.run_findKey hkt hf]
            cases r with
            | none => cases ok <;> simp [hzr]
            | some r => obtain ⟨j, v⟩ := r; cases ok <;> rfl
          cases hfv : findV kd kv (es.toList.map (·.key)) with
          | none => rw [hfv] at h; cases h
          | some r =>
            rw [hfv] at h
            rcases findV_now kd kv es.toList r hfv 0 with ⟨rfl, h2⟩ | ⟨j, e, rfl, h2, h3, _⟩
            · simp only [mapGet, Option.some.injEq] at h
              subst h
              refine ⟨_, ?_, fun w' hb' => hlook w' hb' none h2⟩
              cases ok
              · exact .sc z
              · refine .tp _ [z, .bool false] rfl fun i d v hd hv => ?_
                match i, hd, hv with
                | 0, hd, hv => simp at hd hv; subst hd; subst hv; exact .sc _
                | 1, hd, hv => simp at hd hv; subst hd; subst hv; exact .sc _
            · simp only [mapGet] at h
              split at h
              · rename_i cd hcd
                obtain ⟨u, k1, k2⟩ := hcells j cd hcd
                have hu' : u = e.val := by
                  have : vs.toList[j]? = some u := by simpa using k1
                  rw [← hvs, List.getElem?_map, h2] at this
                  simpa using this.symm
                subst hu'
                simp only [Option.some.injEq] at h
                subst h
                refine ⟨_, ?_, fun w' hb' => hlook w' hb' _ h3⟩
                cases ok
                · exact k2
                · refine .tp _ [e.val, .bool true] rfl fun i d v hd hv => ?_
                  match i, hd, hv with
                  | 0, hd, hv => simp at hd hv; subst hd; subst hv; exact k2
                  | 1, hd, hv => simp at hd hv; subst hd; subst hv; exact .sc _
              · cases h
        · cases h
      · cases h
    · cases h
  · cases h
theorem bytesOf_get : ∀ {ds : List D} {ns : List Int}, bytesOf ds = some ns → ns.length = ds.length ∧ ∀ (i : Nat) (d : D), ds[i]? = some d → d = .sc (.int .u8 (ns.getD i 0))
  | [], ns, h => by simp [bytesOf] at h; subst h; simp
  | .sc (.int .u8 n) :: ds, ns, h => by
    simp only [bytesOf, Option.map_eq_some_iff] at h
    obtain ⟨ns', h', rfl⟩ := h
    obtain ⟨h1, h2⟩ := bytesOf_get h'
    refine ⟨by simp [h1], fun i d hi => ?_⟩
    cases i with
    | zero => simp at hi; subst hi; rfl
    | succ i => simpa using h2 i d (by simpa using hi)
theorem bytes_sound (hr : Rep w0 M g s a w) {src dst : TypeId} {x : Operand} {d : D} (h : bytesD P s src dst (s.ev x) = some d) :
    ∃ v, Rd (view w M g s.n) d v ∧ ∀ w', Below w.heap.size w w' → (convert src dst (a.eval x)).run P w' = .ok v w' := by
  have ht : ∀ {e}, byteT P src = true → P.underlying src = some (.slice e) → P.underlying e = some (.int .u8) := fun h hu => by
    unfold byteT at h; rw [hu] at h; simp only at h; split at h
    · assumption
    · cases h
  have hs : byteT P src = true → ∃ e, P.underlying src = some (.slice e) ∧ P.underlying e = some (.int .u8) := fun h => by
    have h' := h
    unfold byteT at h; split at h
    · rename_i e hu; exact ⟨e, hu, ht h' hu⟩
    · cases h
  have k0 : kindT P dst = 0 → P.underlying dst = some .string := fun e => by unfold kindT at e; split at e <;> simp_all
  have fin : ∀ (len cap b o : Nat) (ds : List D), bytesStr len ds = some d → (∀ (j : Nat) (e : D), ds[j]? = some e → j < len → ∃ u, w.cell? ⟨b, o + j, none⟩ = some u ∧ Rd (view w M g s.n) e u) → byteT P src = true → kindT P dst = 0 →
      ∃ v, Rd (view w M g s.n) d v ∧ ∀ w', Below w.heap.size w w' → (convert src dst (.slice (some ⟨b, o, none⟩) len cap)).run P w' = .ok v w' := by
    intro len cap b o ds hb hc h1 h2
    obtain ⟨e, hu, he⟩ := hs h1
    unfold bytesStr at hb
    split at hb
    · rename_i ns hns
      split at hb
      · rename_i hlen
        cases hb
        obtain ⟨q1, q2⟩ := bytesOf_get hns
        refine ⟨_, .sc _, fun w' hbl => run_convert_bytes_arg w' src e hu he b o len cap ns hlen (fun i hi => ?_) dst (k0 h2)⟩
        have hi' : i < (ds.take len).length := by omega
        have hg := List.getElem?_eq_getElem hi'
        have hd := q2 i _ hg
        rw [hd] at hg
        rw [List.getElem?_take, if_pos hi] at hg
        obtain ⟨u, z1, z2⟩ := hc i _ hg hi
        cases z2
        exact below_cell hbl z1
      · cases hb
    · cases hb
  have hx := hr.ev x
  unfold bytesD at h
  split at h
  · rename_i t gn len hdx
    rw [hdx] at hx
    generalize a.eval x = vx at hx
    split at h
    · rename_i hc
      split at h
      · rename_i ob hob
        split at h
        · rename_i hgk
          obtain ⟨hgen, hks⟩ := hgk
          obtain ⟨hg, b, c, vs, hgt, hheap, _, hcm, hlen, hcells⟩ := hr.obj t ob hob
          have hheap := hheap.cells hks
          cases hx with | ms _ _ _ ad cap _ hx =>
          obtain ⟨rfl, rfl⟩ := hx b c (by rw [← hgen]; exact hgt)
          refine fin len cap b 0 ob.cells h (fun j e hj _ => ?_) hc.1 hc.2
          obtain ⟨u, z1, z2⟩ := hcells j e hj
          exact ⟨u, by rw [cell_of_block hheap, Nat.zero_add]; exact z1, z2⟩
        · cases h
      · cases h
    · cases h
  · rename_i sz rows hdx
    rw [hdx] at hx
    generalize a.eval x = vx at hx
    split at h
    · rename_i hc
      obtain ⟨c1, c2, rfl⟩ := hc
      have hemp : rows = [] → d = .sc (.string ByteArray.empty) := by
        rintro rfl
        simp [bytesStr, bytesOf] at h
        rw [← h]; rfl
      cases hx with
      | nil =>
        obtain ⟨e, hu, he⟩ := hs c1
        rw [hemp rfl]
        exact ⟨_, .sc _, fun w' _ => run_convert_bytes_nil w' src e hu he 0 0 dst (k0 c2)⟩
      | emp _ ad cap hm =>
        obtain ⟨e, hu, he⟩ := hs c1
        rw [hemp rfl]
        refine ⟨_, .sc _, fun w' _ => ?_⟩
        rw [run_convert_bytes_string w' src dst e _ _ _ hu he (k0 c2)]
        have := run_bytesToString (P := P) w' ad 0 cap [] (by simpa using run_loadCells_list (P := P) w' ad [] (by simp))
        simpa using this
      | sl _ _ b o cap us hc hm hl h1 h2 =>
        refine fin rows.length cap b o rows.flatten h (fun j e hj hjl => ?_) c1 c2
        have hrow : rows[j]? = some rows[j] := List.getElem?_eq_getElem hjl
        have h0 : 0 < (rows[j]).length := by rw [hl j _ hrow]; decide
        have hf := flatten_get (fun r hr => by obtain ⟨i, hi⟩ := List.mem_iff_getElem?.1 hr; exact hl i r hi) hrow (List.getElem?_eq_getElem h0)
        simp only [Nat.mul_one, Nat.add_zero] at hf
        rw [hf] at hj
        cases hj
        have z1 := h1 j _ 0 _ hrow (List.getElem?_eq_getElem h0)
        simp only [Nat.mul_one, Nat.add_zero] at z1
        exact ⟨us j 0, view_cell z1, h2 j _ 0 _ hrow (List.getElem?_eq_getElem h0)⟩
    · cases h
  · rename_i hdx
    rw [hdx] at hx
    generalize a.eval x = vx at hx
    cases hx
    split at h
    · rename_i hc
      obtain ⟨e, hu, he⟩ := hs hc.1
      cases h
      exact ⟨_, .sc _, fun w' _ => run_convert_bytes_nil w' src e hu he 0 0 dst (k0 hc.2)⟩
    · cases h
  · cases h
theorem stepP_sound (hr : Rep w0 M g s a w) {o : Oper} {d : D} (h : stepP P s o.op = some d) :
    ∃ v, Rd (view w M g s.n) d v ∧ ∀ w', Below w.heap.size w w' → (execOp a.eval o).run P w' = .ok (.value v) w' := by
  unfold stepP at h
  split at h
  · rename_i t parts ho
    split at h
    · rename_i pl zs hp hz
      simp only [Option.map_eq_some_iff] at h
      obtain ⟨cs, hcs, rfl⟩ := h
      obtain ⟨i, z, hi, hz', rfl⟩ := zeroD_spec hz
      unfold fieldPlaces at hp
      split at hp
      · rename_i fs hu
        obtain ⟨k1, k2⟩ := parts_rd hr parts.toList
        obtain ⟨vr, f1, f2, f3, f4⟩ := fill_sound (V := view w M g s.n) (fun i => pl[i]?) _ _ _ z.cells cs k1 k2 (by simp) (fun j d hj => sc_cells z.cells j d hj) hcs
        have hpl : ∀ w' : World, (fs.mapM fun f => do pure (f.offset, ← sizeOf f.type) : Sem (Array (Nat × Nat))).run P w' = .ok pl.toArray w' := by
          intro w'
          have key : ∀ (l : List Field) (pl : List (Nat × Nat)), (l.mapM fun f => (szOf P f.type).map fun n => (f.offset, n)) = some pl → (l.mapM fun f => do pure (f.offset, ← sizeOf f.type) : Sem (List (Nat × Nat))).run P w' = .ok pl w' := by
            intro l
            induction l with
            | nil => intro pl h; simp at h; subst h; rfl
            | cons f l ih =>
              intro pl h
              rw [List.mapM_cons] at h
              simp only [Option.bind_eq_bind, Option.bind_eq_some_iff, Option.pure_def, Option.some.injEq, Option.map_eq_some_iff] at h
              obtain ⟨x, ⟨n, hn, rfl⟩, r, hr, rfl⟩ := h
              rw [List.mapM_cons]
              simp only [Sem.run_bind, szOf_some hn, Result.andThen_ok, ih r hr, Sem.run_pure]
          rw [← Array.toArray_toList (xs := fs), List.mapM_toArray, ← bind_pure_comp, Sem.run_bind, key fs.toList pl hp]
          rfl
        refine ⟨.agg vr, ?_, fun w' _ => ?_⟩
        · have : vr = vr.toList.toArray := by simp
          rw [this]
          exact .ag _ _ (by simp [f2]) fun j d v hd hv => by
            obtain ⟨u, g1, g2⟩ := f4 j d hd
            rw [Array.getElem?_toList, g1] at hv
            cases hv; exact g2
        · simp only [execOp, ho]
          refine run_value ?_
          have hzr : (zeroValue t).run P w' = .ok z w' := by simp [zeroValue, typeInfo, hi, hz']
          have hpl' := hpl w'
          have e1 : (parts.map fun (x : Nat × Operand) => (x.1, a.eval x.2)).toList = parts.toList.map fun x => (x.1, a.eval x.2) := by simp
          have e2 : Instr.fill (fun i => pl.toArray[i]?) z.cells (parts.map fun (x : Nat × Operand) => (x.1, a.eval x.2)).toList = some vr := by rw [e1, ← f1]; congr 1; funext i; simp
          simp only [Instr.build, Sem.run_bind, hzr, Result.andThen_ok, run_underlying hu]
          rw [hpl']
          simp only [Result.andThen_ok]
          rw [e2]
          rfl
      · cases hp
    · cases h
  · rename_i t x lo hi mx ho
    split at h
    · obtain ⟨v, h1, h2⟩ := slice_sound h (hr.ev x) (lo.map a.eval) (hi.map a.eval) (bnd_opt hr lo) (bnd_opt hr hi) (fun e => by cases lo <;> simp_all) (fun e => by cases hi <;> simp_all)
      exact ⟨v, h1, fun w' _ => by simp only [execOp, ho, Option.map_none]; exact run_value (h2 w')⟩
    · cases h
  · rename_i t x k ok ho
    obtain ⟨v, h1, h2⟩ := lookup_sound hr h
    exact ⟨v, h1, fun w' hb => by simp only [execOp, ho]; exact run_value (h2 w' hb)⟩
  · rename_i src dst x ho
    cases hb : bytesD P s src dst (s.ev x) with
    | none =>
      rw [hb] at h
      refine stepPure_sound hr (o := o) ?_
      rw [ho]; exact h
    | some d' =>
      rw [hb] at h
      cases h
      obtain ⟨v, h1, h2⟩ := bytes_sound hr hb
      exact ⟨v, h1, fun w' hb => by simp only [execOp, ho]; exact run_value (h2 w' hb)⟩
  · rename_i c ho
    split at h
    · rename_i x y hcal hargs
      have e1 : c.args = #[x, y] := by apply Array.ext'; simpa using hargs
      have hx := hr.ev x
      have hy := hr.ev y
      split at h
      · rename_i k m k' n hu hv
        rw [hu] at hx; rw [hv] at hy
        generalize hxe : a.eval x = vx at hx
        generalize hye : a.eval y = vy at hy
        cases hx; cases hy
        cases h
        exact ⟨_, .sc _, fun w' _ => by simp [execOp, ho, resolve, hcal, e1, hxe, hye, invoke, builtin, Builtin.max_, Builtin.max2]⟩
      · cases h
    · rw [← ho] at h
      exact stepPure_sound hr h
  · exact stepPure_sound hr h
end

section
variable {P : Program} {w0 : Bs} {M : Nat → Prop} {g : Nat → Option (Nat × Nat × Nat)} {s : St} {a : Act} {w : World}

theorem cells_of_zip {V : View} {cs : List D} {v : Value} (h : cs.length = v.cells.size ∧ ∀ (j : Nat) (e : D), cs[j]? = some e → ∃ u, v.cells[j]? = some u ∧ Rd V e u) :
    ∀ (j : Nat) (d : D), cs[j]? = some d → ∃ u, v.cells[j]? = some u ∧ Rd V d u := h.2

/-- The cells that an append copies. -/
theorem news_sound (hr : Rep w0 M g s a w) {e : TypeId} {sz : Nat} {dy : D} {vy : Value} (hy : Rd (view w M g s.n) dy vy) {m : Nat} {cs : List D} (h : newsD s e sz dy = some (m, cs)) (hall : cs.all oneD = true) :
    (m = 0 ∧ cs = [] ∧ vy = .slice none 0 0) ∨ ∃ (ad : Addr) (c : Nat) (news : List Value), vy = .slice (some ad) m c ∧ news.length = m * sz ∧ cs.length = news.length ∧ (∀ (j : Nat) (u : Value), news[j]? = some u → w.cell? (ad.add j) = some u) ∧
      (∀ u ∈ news, u.oneCell' = true) ∧ ∀ (j : Nat) (d : D), cs[j]? = some d → ∃ u, news[j]? = some u ∧ Rd (view w M g s.n) d u := by
  have ones : ∀ (news : List Value), cs.length = news.length → (∀ (j : Nat) (d : D), cs[j]? = some d → ∃ u, news[j]? = some u ∧ Rd (view w M g s.n) d u) → ∀ u ∈ news, u.oneCell' = true := by
    intro news hl hc u hu
    obtain ⟨j, hj, rfl⟩ := List.getElem_of_mem hu
    have hjc : j < cs.length := by omega
    obtain ⟨u', h1, h2⟩ := hc j _ (List.getElem?_eq_getElem hjc)
    rw [List.getElem?_eq_getElem hj] at h1; cases h1
    exact one_rd (List.all_eq_true.1 hall _ (List.getElem_mem hjc)) h2
  cases dy with
  | sl sz' rows =>
    simp only [newsD] at h
    split at h
    · rename_i hs
      subst hs
      cases h
      cases hy with
      | nil => exact .inl ⟨rfl, rfl, rfl⟩
      | emp _ ad cap hm => exact .inr ⟨ad, cap, [], rfl, by simp, by simp, fun k u hk => by simp at hk, ones [] (by simp) (fun j d hj => by simp at hj), fun j d hj => by simp at hj⟩
      | sl _ _ b ob cap us hc hm hl h1 h2 =>
        have hlen : ∀ (rows : List (List D)), (∀ (i : Nat) (r : List D), rows[i]? = some r → r.length = sz') → rows.flatten.length = rows.length * sz' := by
          intro rows
          induction rows with
          | nil => intro _; simp
          | cons r rows ih =>
            intro hl
            simp only [List.flatten_cons, List.length_append, List.length_cons]
            rw [ih fun i r h => hl (i + 1) r (by simpa using h), hl 0 r (by simp), Nat.add_mul]; omega
        have hget : ∀ (rows : List (List D)), (∀ (i : Nat) (r : List D), rows[i]? = some r → r.length = sz') → ∀ (k : Nat) (d : D), rows.flatten[k]? = some d → ∃ i j r, k = i * sz' + j ∧ rows[i]? = some r ∧ r[j]? = some d := by
          intro rows
          induction rows with
          | nil => intro _ k d h; simp at h
          | cons r rows ih =>
            intro hl k d h
            rw [List.flatten_cons] at h
            have hr0 := hl 0 r (by simp)
            by_cases hk : k < r.length
            · rw [List.getElem?_append_left hk] at h
              exact ⟨0, k, r, by omega, by simp, h⟩
            · rw [List.getElem?_append_right (by omega)] at h
              obtain ⟨i, j, r', e, h1, h2⟩ := ih (fun i r h => hl (i + 1) r (by simpa using h)) _ _ h
              exact ⟨i + 1, j, r', by rw [Nat.add_mul]; omega, by simpa using h1, h2⟩
        let news : List Value := (List.range (rows.length * sz')).map fun k => us (k / sz') (k % sz')
        have hcs : ∀ (j : Nat) (d : D), rows.flatten[j]? = some d → ∃ u, news[j]? = some u ∧ Rd (view w M g s.n) d u := by
          intro k d hk
          obtain ⟨i, j, r, e, k1, k2⟩ := hget rows hl k d hk
          have hj : j < sz' := by rw [← hl i r k1]; exact (List.getElem?_eq_some_iff.1 k2).1
          have hkl : k < rows.length * sz' := by rw [← hlen rows hl]; exact (List.getElem?_eq_some_iff.1 hk).1
          have ed : k / sz' = i := by rw [e, Nat.mul_comm, Nat.mul_add_div (by omega), Nat.div_eq_of_lt hj, Nat.add_zero]
          have em : k % sz' = j := by rw [e, Nat.mul_comm, Nat.mul_add_mod, Nat.mod_eq_of_lt hj]
          refine ⟨us i j, ?_, h2 i r j d k1 k2⟩
          simp only [news]
          rw [List.getElem?_map, List.getElem?_range hkl]; simp [ed, em]
        have hnl : news.length = rows.length * sz' := by simp [news]
        refine .inr ⟨⟨b, ob, none⟩, cap, news, rfl, hnl, by rw [hnl, hlen rows hl], fun k u hk => ?_, ones news (by rw [hnl, hlen rows hl]) hcs, hcs⟩
        have hkl : k < rows.length * sz' := by rw [← hnl]; exact (List.getElem?_eq_some_iff.1 hk).1
        have hkf : k < rows.flatten.length := by rw [hlen rows hl]; exact hkl
        obtain ⟨i, j, r, e, k1, k2⟩ := hget rows hl k _ (List.getElem?_eq_getElem hkf)
        have hj : j < sz' := by rw [← hl i r k1]; exact (List.getElem?_eq_some_iff.1 k2).1
        have ed : k / sz' = i := by rw [e, Nat.mul_comm, Nat.mul_add_div (by omega), Nat.div_eq_of_lt hj, Nat.add_zero]
        have em : k % sz' = j := by rw [e, Nat.mul_comm, Nat.mul_add_mod, Nat.mod_eq_of_lt hj]
        simp only [news] at hk
        rw [List.getElem?_map, List.getElem?_range hkl] at hk
        simp only [Option.map_some, Option.some.injEq, ed, em] at hk
        subst hk
        have := view_cell (h1 i r j _ k1 k2)
        rw [add_lit, e, ← Nat.add_assoc]
        exact this
    · cases h
  | ms t gn m' =>
    simp only [newsD] at h
    split at h
    · rename_i ob hob
      split at h
      · rename_i hc
        obtain ⟨c1, c2, c3, c4, hks⟩ := hc
        cases h
        obtain ⟨hg, b, c, vs, hgt, hheap, hsz, hcm, hlen, hcells⟩ := hr.obj t ob hob
        have hsz := hsz hks
        have hheap := hheap.cells hks
        cases hy with | ms _ _ _ ad cap _ hy =>
        obtain ⟨rfl, rfl⟩ := hy b c (by rw [← c1]; exact hgt)
        have hnl : (vs.toList.take ob.cells.length).length = ob.cells.length := by simp; omega
        have hcs : ∀ (j : Nat) (d : D), ob.cells[j]? = some d → ∃ u, (vs.toList.take ob.cells.length)[j]? = some u ∧ Rd (view w M g s.n) d u := by
          intro j d hj
          obtain ⟨u, k1, k2⟩ := hcells j d hj
          have hjl := (List.getElem?_eq_some_iff.1 hj).1
          exact ⟨u, by rw [List.getElem?_take, if_pos hjl]; simpa using k1, k2⟩
        refine .inr ⟨⟨b, 0, none⟩, cap, vs.toList.take ob.cells.length, rfl, by rw [hnl, c3], hnl.symm, fun j u hj => ?_, ones _ hnl.symm hcs, hcs⟩
        rw [List.getElem?_take] at hj
        split at hj
        · rw [add_lit, cell_of_block hheap, Nat.zero_add]; simpa using hj
        · cases hj
      · cases h
    · cases h
  | sc v =>
    have hv : ∃ ad c, v = .slice (some ad) 0 c ∧ m = 0 ∧ cs = [] := by
      cases v with
      | slice a n c =>
        cases a with
        | none => simp [newsD] at h
        | some ad => cases n with
          | zero => simp [newsD] at h; exact ⟨ad, c, rfl, h.1.symm, h.2⟩
          | succ n => simp [newsD] at h
      | _ => simp [newsD] at h
    obtain ⟨ad, c, rfl, rfl, rfl⟩ := hv
    cases hy
    exact .inr ⟨_, _, [], rfl, by simp, by simp, fun k u hk => by simp at hk, ones [] (by simp) (fun j d hj => by simp at hj), fun j d hj => by simp at hj⟩
  | _ => cases h
end

section
variable {P : Program} {w0 : Bs} {M : Nat → Prop} {g : Nat → Option (Nat × Nat × Nat)} {s : St} {a : Act} {w : World}

theorem madeCells_get (z : Array Value) (n k : Nat) (hz : 0 < z.size) (hk : k < n) : (madeCells z n)[k]? = z[k % z.size]? := by
  have hm : k % z.size < z.size := Nat.mod_lt _ hz
  simp [madeCells, hk, hm]

theorem rep_flatten_get (zr : List D) : ∀ (n k : Nat) (d : D), (List.replicate n zr).flatten[k]? = some d → k < n * zr.length ∧ zr[k % zr.length]? = some d
  | 0, k, d, h => by simp at h
  | n + 1, k, d, h => by
    rw [List.replicate_succ, List.flatten_cons] at h
    by_cases hk : k < zr.length
    · rw [List.getElem?_append_left hk] at h
      exact ⟨by rw [Nat.add_mul]; omega, by rw [Nat.mod_eq_of_lt hk]; exact h⟩
    · rw [List.getElem?_append_right (by omega)] at h
      obtain ⟨h1, h2⟩ := rep_flatten_get zr n _ d h
      refine ⟨by rw [Nat.add_mul]; omega, ?_⟩
      rw [Nat.mod_eq_sub_mod (by omega)]; exact h2

theorem intT_some {P : Program} {t : TypeId} {k : IntKind} (h : intT P t = some k) : P.underlying t = some (.int k) := by unfold intT at h; split at h <;> simp_all
theorem run_append_make {P : Program} (w : World) (t ti ty e : TypeId) (i : TypeInfo) (z : Value) {k : IntKind} (ht : P.underlying t = some (.slice e)) (hti : P.underlying ti = some (.int k)) (hi : P.info? e = some i) (hz : i.zero = some z) {sz : Nat} (hisz : i.size = sz) (hsz : 0 < sz)
    (kk : IntKind) (m : Nat) (h0 : 0 < m) (hm : m ≤ maxLen) (hb : m * i.bytes ≤ 140737488355328) :
    (Builtin.append_ #[t, ti] ty #[.slice none 0 0, .int kk m]).run P w = .ok (.slice (some ⟨w.heap.size, 0, none⟩) m (grownCap w m 0 e)) (w.drew.alloc (.cells (Builtin.zeroCells z.cells m ++ Builtin.zeroCells z.cells (grownCap w m 0 e - m)) e)) := by
  have hn : m ≠ 0 := by omega
  unfold maxLen at hm
  have hw : IntKind.i64.wrap (m : Int) = (m : Int) := by rw [IntKind.wrap_i64]; omega
  have h1 : ¬ ((m : Int) < 0) := by omega
  have h2 : ¬ (281474976710656 < (m : Int) * (i.bytes : Int)) := by rw [← Int.natCast_mul]; omega
  have h3 : ¬ (9223372036854775807 < (m : Int)) := by omega
  have h4 : ¬ (281474976710656 < Builtin.nextslicecap m 0 * i.bytes) := by rw [nextslicecap_zero h0]; omega
  have h5 : ¬ (m * sz = 0) := by have := Nat.mul_pos h0 hsz; omega
  simp [Builtin.append_, run_underlying ht, run_underlying hti, sizeOf, typeInfo, zeroValue, hi, hz, hisz, asInt, asIntOf, hw, h1, h2, h3, h4, h5, hn, Question.forced, run_firstCells_none, newRow, grownCap]
theorem ms_rd {V : View} {t gn len b c : Nat} (hn : gn < V.n t) (hle : len ≤ c) (hg : V.g t = some (gn, b, c)) : Rd V (.ms t gn len) (.slice (some ⟨b, 0, none⟩) len c) :=
  .ms _ _ _ _ _ ⟨hn, hle⟩ fun b' c' e => by rw [hg] at e; cases e; exact ⟨rfl, rfl⟩
theorem rf_rd {V : View} {t gn b c off : Nat} (hg : gn < V.n t) (hgt : V.g t = some (gn, b, c)) : Rd V (.rf t gn off) (.pointer (some ⟨b, off, none⟩)) :=
  .rf _ _ _ _ hg fun b' c' e => by rw [hgt] at e; cases e; rfl

/-- What the step leaves: the object that an append turns lies where its value says. -/
theorem append_sound (hr : Rep w0 M g s a w) {ty e : TypeId} {sz by' : Nat} (hi : elemInfo P ty = some (e, sz, by')) (tyr : TypeId) (t : Nat) {dx dy : D} {vx vy : Value} (hx : Rd (view w M g s.n) dx vx) (hy : Rd (view w M g s.n) dy vy)
    {m : Nat} {cs : List D} (hn : newsD s e sz dy = some (m, cs)) (hall : cs.all oneD = true) :
    (dx = .sc (.slice none 0 0) → 0 < m → m * by' ≤ 140737488355328 → m ≤ maxLen →
      ∃ v w' g', (Builtin.append_ #[ty, ty] tyr #[vx, vy]).run P w = .ok v w' ∧ Rep w0 M g' (newOb s t e sz cs) a w' ∧ Rd (view w' M g' (bump s.n t)) (.ms t (s.n t) m) v) ∧
    (∀ t0 len ob, dx = .ms t0 ob.gen len → s.H t0 = some ob → ob.sz = sz → ob.cells.length = len * sz → ob.elem = e → ob.keys = none → (len + m) * by' ≤ 140737488355328 → len + m ≤ maxLen →
      ∃ v w' g', (Builtin.append_ #[ty, ty] tyr #[vx, vy]).run P w = .ok v w' ∧ Rep w0 M g' (movOb s t0 t e sz (ob.cells ++ cs)) a w' ∧ Rd (view w' M g' (bump s.n t)) (.ms t (s.n t) (len + m)) v) := by
  obtain ⟨i, z, hu, hinf, hz, hzs, hsz, hisz, hiby⟩ := elemInfo_spec hi
  have hnews := news_sound hr hy hn hall
  constructor
  · intro hdx hm hb hmx
    subst hdx
    cases hx
    rcases hnews with ⟨rfl, _⟩ | ⟨ad, c, news, rfl, n1, n2, n3, n4, n5⟩
    · omega
    · have hrun := run_append_nil (P := P) w ty tyr e i z hu hinf hz ad m c news (by rw [n1, hisz]) n3 hm (by have := hmx; simp only [maxLen] at this; omega) (by rw [hiby]; omega)
      have hge := grownCap_ge w m 0 e
      obtain ⟨g', r1, r2, r3⟩ := hr.make t e sz (grownCap w m 0 e) cs (news.toArray ++ Builtin.zeroCells z.cells (grownCap w m 0 e - m)) (below_drew_alloc w _) (heap_new w.drew _)
        (by simp only [Array.size_append, List.size_toArray, size_zeroCells, n1, hzs, ← Nat.add_mul]; congr 1; omega) (grownCap_le_maxLen w m 0 e hmx)
        (by simp only [Array.size_append, List.size_toArray]; omega) (fun j d hj => by
          obtain ⟨u, k1, k2⟩ := n5 j d hj
          have hjl := (List.getElem?_eq_some_iff.1 k1).1
          exact ⟨u, by rw [Array.getElem?_append_left (by simpa using hjl)]; simpa using k1, k2⟩)
      exact ⟨_, _, g', hrun, r1, ms_rd (by show s.n t < bump s.n t t; rw [bump_same]; omega) hge r3⟩
  · intro t0 len ob hdx hob osz olen oe hks hb hmx
    subst hdx
    cases hx with | ms _ _ _ adx cap hgl hx =>
    obtain ⟨hg, b, c, vs, hgt, hheap, hvs, hcm, hlen, hcells⟩ := hr.obj t0 ob hob
    obtain ⟨rfl, rfl⟩ := hx b c hgt
    have hvs := hvs hks
    have hheap := hheap.cells hks
    rw [osz] at hvs
    rw [oe] at hheap
    have hblt := (hr.base _ _ _ _ hgt).2
    rcases hnews with ⟨rfl, rfl, rfl⟩ | ⟨ad, c', news, rfl, n1, n2, n3, n4, n5⟩
    · have hown : w.ownsRow 0 e sz (.slice (some ⟨b, 0, none⟩) len cap) len (vs.toList.take (len * sz)) := by
        refine ⟨by simp; omega, .inr ⟨b, cap, vs, rfl, Nat.zero_le _, hheap, ?_, hcm, hvs, rfl⟩⟩
        have : len * sz ≤ cap * sz := by rw [← hvs, ← olen]; exact hlen
        exact Nat.le_of_mul_le_mul_right this hsz
      have hrun := run_append_owned_none (P := P) w 0 ty tyr e i sz hu hinf _ len _ hown
      obtain ⟨r1, r2⟩ := hr.rebind (w' := w) t0 t b cap vs { gen := s.n t, elem := e, sz, cells := ob.cells ++ [] } rfl (fun _ _ _ => rfl) (.inr ⟨_, _, hgt⟩) hblt (.of hheap rfl) (fun _ => hvs) hcm (by simpa using hlen) (by simpa using hcells) rfl rfl rfl (Nat.le_refl _)
      exact ⟨_, w, _, hrun, r1, ms_rd (by show s.n t < bump s.n t t; rw [bump_same]; omega) (by have := hgl.2; omega) (upd_same _ _ _)⟩
    · by_cases hroom : len + m ≤ cap
      · have hfit : len * i.size + news.length ≤ vs.size := by rw [hisz, n1, hvs, ← Nat.add_mul]; exact Nat.mul_le_mul_right _ hroom
        have hrun := run_append_room (P := P) w ty tyr e i hu hinf b len cap vs hheap ad m c' news (by rw [n1, hisz]) n3 n4 hroom hfit
        rw [hisz] at hrun hfit
        have htk : (vs.toList.take (len * sz)).length = len * sz := by simp; omega
        have hsize : (vs.toList.take (len * sz) ++ news ++ vs.toList.drop (len * sz + news.length)).toArray.size = vs.size := by simp; omega
        obtain ⟨r1, r2⟩ := hr.rebind (w' := w.setRow b (vs.toList.take (len * sz) ++ news ++ vs.toList.drop (len * sz + news.length)).toArray) t0 t b cap _ { gen := s.n t, elem := e, sz, cells := ob.cells ++ cs } rfl
          (fun k _ hk => setRow_other w b k _ hk) (.inr ⟨_, _, hgt⟩) (by simp; exact hblt) (setRow_heap w b vs _ e _ hheap) (fun _ => by rw [hsize, hvs]) hcm
          (by rw [hsize]; simp only [List.length_append]; omega) (fun j d hj => by
            show ∃ u, (vs.toList.take (len * sz) ++ news ++ vs.toList.drop (len * sz + news.length)).toArray[j]? = some u ∧ _
            rw [List.getElem?_toArray]
            by_cases hjl : j < ob.cells.length
            · rw [List.getElem?_append_left hjl] at hj
              obtain ⟨u, k1, k2⟩ := hcells j d hj
              refine ⟨u, ?_, k2⟩
              rw [List.append_assoc, List.getElem?_append_left (by omega), List.getElem?_take, if_pos (by omega)]; simpa using k1
            · rw [List.getElem?_append_right (by omega)] at hj
              obtain ⟨u, k1, k2⟩ := n5 _ d hj
              refine ⟨u, ?_, k2⟩
              have := (List.getElem?_eq_some_iff.1 k1).1
              rw [List.append_assoc, List.getElem?_append_right (by omega), htk, List.getElem?_append_left (by omega), ← olen]; exact k1) rfl rfl rfl (by simp)
        exact ⟨_, _, _, hrun, r1, ms_rd (by show s.n t < bump s.n t t; rw [bump_same]; omega) hroom (upd_same _ _ _)⟩
      · have holds : ∀ (j : Nat) (v : Value), (vs.toList.take (len * sz))[j]? = some v → w.cell? ((⟨b, 0, none⟩ : Addr).add j) = some v := by
          intro j v hj
          rw [List.getElem?_take] at hj
          split at hj
          · rw [add_lit, cell_of_block hheap, Nat.zero_add]; simpa using hj
          · cases hj
        have htk : (vs.toList.take (len * sz)).length = len * sz := by simp; omega
        have hrun := run_append_grow (P := P) w ty tyr e i z hu hinf hz ⟨b, 0, none⟩ len cap (vs.toList.take (len * sz)) (by rw [htk, hisz]) holds ad m c' news (by rw [n1, hisz]) n3 (by omega)
          (by have := hmx; simp only [maxLen] at this; omega) (growslice_fits (by omega) (by rw [hiby]; exact hb))
        have hge := grownCap_ge w (len + m) cap e
        have hbd := below_drew_alloc w (.cells ((vs.toList.take (len * sz)).toArray ++ news.toArray ++ Builtin.zeroCells z.cells (grownCap w (len + m) cap e - (len + m))) e)
        obtain ⟨r1, r2⟩ := hr.rebind (w' := w.drew.alloc (.cells ((vs.toList.take (len * sz)).toArray ++ news.toArray ++ Builtin.zeroCells z.cells (grownCap w (len + m) cap e - (len + m))) e)) t0 t w.heap.size (grownCap w (len + m) cap e) _ { gen := s.n t, elem := e, sz, cells := ob.cells ++ cs } rfl
          (fun k hk _ => hbd.block k hk) (.inl (Nat.le_refl _)) (lt_of_heap (heap_new w.drew _)) (.of (heap_new w.drew _) rfl)
          (fun _ => by simp only [Array.size_append, List.size_toArray, size_zeroCells, htk, n1, hzs, ← Nat.add_mul]; congr 1; omega) (grownCap_le_maxLen w _ cap e hmx)
          (by simp only [Array.size_append, List.size_toArray, List.length_append]; omega) (fun j d hj => by
            show ∃ u, ((vs.toList.take (len * sz)).toArray ++ news.toArray ++ Builtin.zeroCells z.cells (grownCap w (len + m) cap e - (len + m)))[j]? = some u ∧ _
            by_cases hjl : j < ob.cells.length
            · rw [List.getElem?_append_left hjl] at hj
              obtain ⟨u, k1, k2⟩ := hcells j d hj
              refine ⟨u, ?_, k2⟩
              rw [Array.getElem?_append_left (by simp; omega), Array.getElem?_append_left (by simp; omega), List.getElem?_toArray, List.getElem?_take, if_pos (by omega)]; simpa using k1
            · rw [List.getElem?_append_right (by omega)] at hj
              obtain ⟨u, k1, k2⟩ := n5 _ d hj
              refine ⟨u, ?_, k2⟩
              have hlt := (List.getElem?_eq_some_iff.1 k1).1
              rw [Array.getElem?_append_left (by simp; omega), Array.getElem?_append_right (by simp; omega), List.getElem?_toArray, List.size_toArray, htk, ← olen]; exact k1) hbd.os hbd.tape hbd.output hbd.size
        exact ⟨_, _, _, hrun, r1, ms_rd (by show s.n t < bump s.n t t; rw [bump_same]; omega) hge (upd_same _ _ _)⟩
end

section
variable {P : Program} {w0 : Bs} {M : Nat → Prop} {g : Nat → Option (Nat × Nat × Nat)} {s : St} {a : Act} {w : World}

theorem stepMem_sound (hr : Rep w0 M g s a w) {mu : List Nat} {o : Oper} {t : Nat} {p : Prop} {s1 : St} {d : D} (h : stepMem P mu s t o.op = some (p, s1, d)) (hp : p) :
    ∃ v w' g', (execOp a.eval o).run P w = .ok (.value v) w' ∧ Rep w0 M g' s1 a w' ∧ Rd (view w' M g' s1.n) d v := by
  unfold stepMem at h
  split at h
  · rename_i e x ho
    split at h
    · rename_i cs hcs
      have hc := cells_rd hcs (hr.ev x)
      have hb := below_alloc w (.cells (a.eval x).cells e)
      have hrun : (execOp a.eval o).run P w = .ok (.value (.pointer (some ⟨w.heap.size, 0, none⟩))) (w.alloc (.cells (a.eval x).cells e)) := by
        simp [execOp, ho, Instr.box, newVar, newRow]
      split at h
      · cases h
        obtain ⟨g', r1, r2, r3⟩ := hr.make t e cs.length 1 cs (a.eval x).cells hb (heap_new w _) (by rw [Nat.one_mul]; exact hc.1.symm) (by simp [maxLen]) (by omega) hc.2
        exact ⟨_, _, g', hrun, r1, rf_rd (by show s.n t < bump s.n t t; rw [bump_same]; omega) r3⟩
      · cases h
        have hR := hr.grow hb
        have hx : (view w M g s.n).Ext (view (w.alloc (.cells (a.eval x).cells e)) M g s.n) :=
          view_ext (b' := w.heap.size) (fun _ => Nat.le_refl _) (fun k hk _ => hb.block k hk) (.inl (Nat.le_refl _)) (fun _ _ _ _ e => .inl e)
        refine ⟨_, _, g, hrun, hR, .cp cs _ _ (fun j => (a.eval x).cells.getD j undef) (fun j d hj => ?_) (fun j d hj => ?_)⟩
        · obtain ⟨u, k1, _⟩ := hc.2 j d hj
          refine view_mk ?_ (fun k => ?_) (fun s' x' c k => ?_)
          · rw [cell_of_block (heap_new w _), Nat.zero_add, k1]; simp [Array.getD_eq_getD_getElem?, k1]
          · have := (hr.m0 _ k).1; omega
          · have := (hr.base _ _ _ _ k).2; omega
        · obtain ⟨u, k1, k2⟩ := hc.2 j d hj
          have := k2.mono hx
          simpa [Array.getD_eq_getD_getElem?, k1] using this
    · cases h
  · rename_i e ho
    split at h
    · rename_i cs hcs
      cases h
      obtain ⟨i, z, hi, hz, rfl⟩ := zeroD_spec hcs
      have hrun : (execOp a.eval o).run P w = .ok (.value (.pointer (some ⟨w.heap.size, 0, none⟩))) (w.alloc (.cells z.cells e)) := by
        simp [execOp, ho, Instr.alloc, zeroValue, typeInfo, hi, hz, newVar, newRow]
      obtain ⟨g', r1, r2, r3⟩ := hr.make t e (z.cells.toList.map D.sc).length 1 (z.cells.toList.map D.sc) z.cells (below_alloc w _) (heap_new w _) (by simp) (by simp [maxLen]) (by simp) (fun j d hj => sc_cells z.cells j d hj)
      exact ⟨_, _, g', hrun, r1, rf_rd (by show s.n t < bump s.n t t; rw [bump_same]; omega) r3⟩
    · cases h
  · rename_i ty r ho
    split at h
    · cases h
      have hrun : (execOp a.eval o).run P w = .ok (.value (.map (some w.heap.size))) (w.alloc (.map #[] 0)) := by
        simp [execOp, ho, Instr.makeMap, newObj]; rfl
      obtain ⟨r1, r2⟩ := hr.rebind (w' := w.alloc (.map #[] 0)) t t w.heap.size 0 #[] { gen := s.n t, elem := 0, sz := 1, cells := [], keys := some [] } rfl (fun k hk _ => (below_alloc w _).block k hk) (.inl (Nat.le_refl _))
        (HeapIs.lt (ob := { gen := s.n t, elem := 0, sz := 1, cells := [], keys := some [] }) (vs := #[]) ⟨#[], 0, heap_new w _, rfl, rfl⟩) ⟨#[], 0, heap_new w _, rfl, rfl⟩ (fun k => by cases k) (by simp [maxLen]) (by simp) (by simp) rfl rfl rfl (by simp)
      exact ⟨_, _, _, hrun, r1, .mp t (s.n t) _ (by show s.n t < bump s.n t t; rw [bump_same]; omega) (fun b c e => by
        have e : upd (upd g t none) t (some (s.n t, w.heap.size, 0)) t = some (s.n t, b, c) := e
        rw [upd_same] at e; cases e; rfl)⟩
    · cases h
  · rename_i ty len parts ho
    split at h
    · rename_i e sz by' hinf
      split at h
      · rename_i cs hcs
        cases h
        obtain ⟨i, z, hu, hi, hz, hzs, hsz, hisz, hiby⟩ := elemInfo_spec hinf
        obtain ⟨k1, k2⟩ := parts_rd hr parts.toList
        have hbase : ∀ (zc : Array Value), ((Array.range (len * sz)).map (zc[· % zc.size]!)).size = len * sz := by intro zc; simp
        have key : ∀ (zc : Array Value), ∃ vr, Instr.fill (fun i => some (i * sz, sz)) ((Array.range (len * sz)).map (zc[· % zc.size]!)) (parts.map fun (x : Nat × Operand) => (x.1, a.eval x.2)).toList = some vr ∧ cs.length = vr.size ∧ vr.size = len * sz ∧ ∀ (j : Nat) (d : D), cs[j]? = some d → ∃ u, vr[j]? = some u ∧ Rd (view w M g s.n) d u := by
          intro zc
          obtain ⟨vr, f1, f2, f3, f4⟩ := fill_sound (V := view w M g s.n) (fun i => some (i * sz, sz)) _ _ _ ((Array.range (len * sz)).map (zc[· % zc.size]!)) cs k1 k2 (by simp) (fun j d hj => by
            have hd : d = .any := by
              have := List.mem_of_getElem? hj
              exact (List.mem_replicate.1 this).2
            have hjl : j < len * sz := by simpa using (List.getElem?_eq_some_iff.1 hj).1
            subst hd
            exact ⟨_, Array.getElem?_eq_getElem (by simpa using hjl), .any _⟩) hcs
          refine ⟨vr, ?_, f2, by rw [f3, hbase], f4⟩
          rw [← f1]; congr 1; simp
        obtain ⟨vr, f1, f2, f3, f4⟩ := key (if len * sz = 0 then #[] else z.cells)
        have hrun : (execOp a.eval o).run P w = .ok (.value (.slice (some ⟨w.heap.size, 0, none⟩) len len)) (w.alloc (.cells vr e)) := by
          simp only [execOp, ho, Sem.run_bind]
          have hbs : (Instr.buildSlice ty len (parts.map fun (x : Nat × Operand) => (x.1, a.eval x.2))).run P w = .ok (.slice (some ⟨w.heap.size, 0, none⟩) len len) (w.alloc (.cells vr e)) := by
            by_cases h0 : len * sz = 0
            · rw [if_pos h0] at f1
              simp [Instr.buildSlice, run_underlying hu, sizeOf, typeInfo, hi, hisz, h0, newRow] at f1 ⊢
              rw [f1]; simp
            · rw [if_neg h0] at f1
              have h24 : ¬ 16777216 < len * sz := by omega
              simp [Instr.buildSlice, run_underlying hu, sizeOf, typeInfo, hi, hisz, h0, h24, zeroValue, hz, newRow] at f1 ⊢
              simp [f1]
          rw [hbs]; rfl
        obtain ⟨g', r1, r2, r3⟩ := hr.make t e sz len cs vr (below_alloc w _) (heap_new w _) f3 (by have : len ≤ len * sz := Nat.le_mul_of_pos_right _ hsz; simp only [maxLen]; omega) (by omega) f4
        exact ⟨_, _, g', hrun, r1, ms_rd (by show s.n t < bump s.n t t; rw [bump_same]; omega) (Nat.le_refl _) r3⟩
      · cases h
    · cases h
  · rename_i ty l c ho
    split at h
    · rename_i e sz by' k n k' m hinf hl hc
      cases h
      obtain ⟨rfl, hn0, hby, h63⟩ := hp
      obtain ⟨i, z, hu, hi, hz, hzs, hsz, hisz, hiby⟩ := elemInfo_spec hinf
      have hlv := hr.ev l; rw [hl] at hlv
      have hcv := hr.ev c; rw [hc] at hcv
      generalize hle : a.eval l = vl at hlv
      generalize hce : a.eval c = vc at hcv
      cases hlv; cases hcv
      have hrun : (execOp a.eval o).run P w = .ok (.value (.slice (some ⟨w.heap.size, 0, none⟩) m.toNat m.toNat)) (w.alloc (.cells (madeCells z.cells (m.toNat * i.size)) e)) := by
        simp only [execOp, ho, hle, hce, Sem.run_bind, run_make w ty e i z hu hi hz k k' m m hn0 (Int.le_refl _) (by rw [hiby]; exact hby) h63]
        rfl
      have hzr : zeroRow P e = z.cells.toList.map D.sc := by simp [zeroRow, zeroD, hi, hz]
      have hzl : (z.cells.toList.map D.sc).length = sz := by simp [hzs]
      obtain ⟨g', r1, r2, r3⟩ := hr.make t e sz m.toNat (List.replicate m.toNat (zeroRow P e)).flatten (madeCells z.cells (m.toNat * i.size)) (below_alloc w _) (heap_new w _) (by rw [size_madeCells, hisz])
        (by simp only [maxLen]; omega) (by rw [size_madeCells, hisz, hzr]; simp [hzs]) (fun j d hj => by
          rw [hzr] at hj
          obtain ⟨h1, h2⟩ := rep_flatten_get _ _ _ _ hj
          rw [hzl] at h1 h2
          obtain ⟨u, k1, k2⟩ := sc_cells (V := view w M g s.n) z.cells _ _ h2
          exact ⟨u, by rw [madeCells_get _ _ _ (by omega) (by rw [hisz]; exact h1), hzs]; exact k1, k2⟩)
      exact ⟨_, _, g', hrun, r1, ms_rd (by show s.n t < bump s.n t t; rw [bump_same]; omega) (Nat.le_refl _) r3⟩
    · cases h
  · rename_i c ho
    split at h
    · rename_i x y ty ty' hcal hargs htys
      split at h
      · rename_i e sz by' hinf
        split at h
        · rename_i hty
          subst hty
          have e1 : c.args = #[x, y] := by apply Array.ext'; simpa using hargs
          have e2 : c.argTypes = #[ty', ty'] := by apply Array.ext'; simpa using htys
          have hx := hr.ev x
          have hy := hr.ev y
          have hexec : ∀ v w', (Builtin.append_ #[ty', ty'] o.type #[a.eval x, a.eval y]).run P w = .ok v w' → (execOp a.eval o).run P w = .ok (.value v) w' := by
            intro v w' hv
            simp [execOp, ho, resolve, hcal, e1, e2, invoke, builtin, hv]
          obtain ⟨i, z, hu, hi, hz, hzs, hsz, hisz, hiby⟩ := elemInfo_spec hinf
          split at h
          · rename_i t0 gn len hdx hdy
            split at h
            · rename_i ob hob
              split at h
              · rename_i hc
                obtain ⟨c1, c2, c3, c4, hks⟩ := hc
                cases h
                rw [hdx] at hx; rw [hdy] at hy
                generalize hxe : a.eval x = vx at hx hexec
                generalize hye : a.eval y = vy at hy hexec
                cases hy
                have hxk := hx
                cases hx with | ms _ _ _ adx cap _ hx =>
                obtain ⟨hg, b, c, vs, hgt, hheap, hvs, hcm, hlen, hcells⟩ := hr.obj t0 ob hob
                obtain ⟨rfl, rfl⟩ := hx b c (by rw [← c1]; exact hgt)
                have hvs := hvs hks
                have hheap := hheap.cells hks
                rw [c2] at hvs; rw [c4] at hheap
                have hown : w.ownsRow 0 e sz (.slice (some ⟨b, 0, none⟩) len cap) len (vs.toList.take (len * sz)) := by
                  refine ⟨by simp; omega, .inr ⟨b, cap, vs, rfl, Nat.zero_le _, hheap, ?_, hcm, hvs, rfl⟩⟩
                  have : len * sz ≤ cap * sz := by rw [← hvs, ← c3]; exact hlen
                  exact Nat.le_of_mul_le_mul_right this hsz
                exact ⟨_, w, g, hexec _ _ (run_append_owned_none (P := P) w 0 ty' o.type e i sz hu hi _ len _ hown), hr, hxk⟩
              · cases h
            · cases h
          · rename_i hdx hdy
            cases h
            rw [hdx] at hx; rw [hdy] at hy
            generalize hxe : a.eval x = vx at hx hexec
            generalize hye : a.eval y = vy at hy hexec
            cases hx; cases hy
            exact ⟨_, w, g, hexec _ _ (run_append_owned_none (P := P) w 0 ty' o.type e i sz hu hi _ 0 [] (World.ownsRow_nil _ _ _ _)), hr, .sc _⟩
          · rename_i hdx hdy
            cases h
            rw [hdx] at hx; rw [hdy] at hy
            generalize hxe : a.eval x = vx at hx hexec
            generalize hye : a.eval y = vy at hy hexec
            cases hx; cases hy
            exact ⟨_, w, g, hexec _ _ (by simp [Builtin.append_, run_underlying hu, sizeOf, typeInfo, hi, Builtin.lenOf, Builtin.firstCells, loadCells, loadCellsFrom]), hr, .sc _⟩
          · rename_i hdx _ _
            split at h
            · rename_i m cs hnews
              cases h
              obtain ⟨p1, p2, p3, p4⟩ := hp
              obtain ⟨v, w', g', q1, q2, q3⟩ := (append_sound hr hinf o.type t hx hy hnews p1).1 hdx p2 p3 p4
              exact ⟨v, w', g', hexec _ _ q1, q2, q3⟩
            · cases h
          · rename_i t0 gn len hdx _
            split at h
            · rename_i ob m cs hob hnews
              split at h
              · rename_i hc
                obtain ⟨c1, c2, c3, c4, hks⟩ := hc
                cases h
                obtain ⟨p1, p2, p3⟩ := hp
                obtain ⟨v, w', g', q1, q2, q3⟩ := (append_sound hr hinf o.type t hx hy hnews p1).2 t0 len ob (by rw [hdx, c1]) hob c2 c3 c4 hks p2 p3
                exact ⟨v, w', g', hexec _ _ q1, q2, q3⟩
              · cases h
            · cases h
          · cases h
        · split at h
          · rename_i kI kk n hit hdx hdy
            cases h
            obtain ⟨p1, p2, p3⟩ := hp
            have e1 : c.args = #[x, y] := by apply Array.ext'; simpa using hargs
            have e2 : c.argTypes = #[ty, ty'] := by apply Array.ext'; simpa using htys
            have hx := hr.ev x
            have hy := hr.ev y
            have hexec : ∀ v w', (Builtin.append_ #[ty, ty'] o.type #[a.eval x, a.eval y]).run P w = .ok v w' → (execOp a.eval o).run P w = .ok (.value v) w' := by
              intro v w' hv
              simp [execOp, ho, resolve, hcal, e1, e2, invoke, builtin, hv]
            obtain ⟨i, z, hu, hi, hz, hzs, hsz, hisz, hiby⟩ := elemInfo_spec hinf
            rw [hdx] at hx; rw [hdy] at hy
            generalize hxe : a.eval x = vx at hx hexec
            generalize hye : a.eval y = vy at hy hexec
            cases hx; cases hy
            obtain ⟨m, rfl⟩ : ∃ m : Nat, n = (m : Int) := ⟨n.toNat, by omega⟩
            simp only [Int.toNat_natCast] at p2 p3 ⊢
            have hrun := run_append_make (P := P) w ty ty' o.type e i z hu (intT_some hit) hi hz hisz hsz kk m (by omega) p3 (by rw [hiby]; exact p2)
            have hge := grownCap_ge w m 0 e
            have hzr : zeroRow P e = z.cells.toList.map .sc := by simp [zeroRow, zeroD, hi, hz]
            obtain ⟨g', r1, r2, r3⟩ := hr.make t e sz (grownCap w m 0 e) (List.replicate m (zeroRow P e)).flatten (Builtin.zeroCells z.cells m ++ Builtin.zeroCells z.cells (grownCap w m 0 e - m)) (below_drew_alloc w _) (heap_new w.drew _)
              (by simp only [Array.size_append, size_zeroCells, hzs, ← Nat.add_mul]; congr 1; omega) (grownCap_le_maxLen w m 0 e p3)
              (by rw [Array.size_append, size_zeroCells, hzs, flatten_len (rows := List.replicate m (zeroRow P e)) (sz := sz) (fun r hr => by rw [(List.mem_replicate.1 hr).2, hzr]; simpa using hzs), List.length_replicate]; omega) (fun j d hj => by
                obtain ⟨k1, k2⟩ := rep_flatten_get _ _ _ _ hj
                rw [hzr] at k1 k2
                simp only [List.length_map, Array.length_toList] at k1 k2
                obtain ⟨u, u1, u2⟩ := sc_cells (V := view w M g s.n) z.cells _ d k2
                refine ⟨u, ?_, u2⟩
                rw [Array.getElem?_append_left (by rw [size_zeroCells]; exact k1)]
                have hm : j % z.cells.size < z.cells.size := Nat.mod_lt _ (by omega)
                rw [← u1]
                simp [Builtin.zeroCells, k1, hm])
            exact ⟨_, _, g', hexec _ _ hrun, r1, ms_rd (by show s.n t < bump s.n t t; rw [bump_same]; omega) hge r3⟩
          · cases h
      · cases h
    · cases h
  · cases h
end
end Go.Fw
