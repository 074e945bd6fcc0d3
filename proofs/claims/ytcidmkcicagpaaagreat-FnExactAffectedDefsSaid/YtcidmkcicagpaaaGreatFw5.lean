/-
  What an argument's reading says, as data: a typed value without memory, by the type's make. No condition.
-/
import Derived.Test.YtcidmkcicagpaaaGreatFw4
import Derived.ChangeArms
import Derived.WideShapes
import Derived.OpenShut
namespace Go.Fw
open Go.ChangeShapes Go.WideShapes

noncomputable abbrev V0 (W : World) : View := view W (fun _ => False) (fun _ => none) noN
def RdL (V : View) (ds : List D) (cs : List Value) : Prop := ds.length = cs.length ∧ ∀ (i : Nat) (d : D) (v : Value), ds[i]? = some d → cs[i]? = some v → Rd V d v
def RdP (V : View) (ds : List D) (cs : List Value) (o : Nat) : Prop := ∀ (i : Nat) (d : D), ds[i]? = some d → ∃ v, cs[o + i]? = some v ∧ Rd V d v
theorem RdP.append {V : View} {a b : List D} {cs : List Value} {o o' : Nat} (h : RdP V a cs o) (k : RdP V b cs o') (e : o' = o + a.length) : RdP V (a ++ b) cs o := fun i d hd => by
  subst e
  by_cases hi : i < a.length
  · rw [List.getElem?_append_left hi] at hd; exact h i d hd
  · rw [List.getElem?_append_right (by omega)] at hd
    obtain ⟨v, h1, h2⟩ := k _ d hd
    exact ⟨v, by rw [← h1]; congr 1; omega, h2⟩
theorem RdP.nil {V : View} {cs : List Value} {o : Nat} : RdP V [] cs o := fun i d hd => by simp at hd
theorem RdL.of {V : View} {ds : List D} {cs : List Value} (hl : ds.length = cs.length) (h : RdP V ds cs 0) : RdL V ds cs := ⟨hl, fun i d v hd hv => by
  obtain ⟨u, h1, h2⟩ := h i d hd
  rw [Nat.zero_add, hv] at h1; cases h1; exact h2⟩
theorem RdL.one {V : View} {d : D} {v : Value} (h : Rd V d v) : RdL V [d] [v] := ⟨rfl, fun i e u hd hv => by
  match i, hd, hv with
  | 0, hd, hv => simp at hd hv; subst hd; subst hv; exact h⟩
theorem RdL.ag {V : View} {ds : List D} {cs : Array Value} (h : RdL V ds cs.toList) : Rd V (.ag ds) (.agg cs) := by
  have := Rd.ag ds cs.toList h.1 h.2
  simpa using this
theorem RdL.get1 {V : View} {d : D} {v : Value} (h : RdL V [d] [v]) : Rd V d v := h.2 0 d v rfl rfl

/-- Whatever reads at a type is a value of it. -/
def Dec (P : Program) (n : Nat) (t : TypeId) {X : Type} (ds : X → List D) (ok : X → Prop) : Prop :=
  ∀ {H : Type} (enc : TypeId × Value → H) (W : World) (base : Nat) (spare : Nat → Bool) (held : Bool) (fuel : Nat) (cs : List Value) (x : DataW H × List MemPlace), fuel ≤ n →
    DataW.trod enc P W base spare held fuel t cs = some x → ∃ a : X, ok a ∧ RdL (V0 W) (ds a) cs

section
variable {P : Program} {n : Nat} {t : TypeId}
theorem Dec.int {k : IntKind} (ht : P.underlying t = some (.int k)) : Dec P n t (fun z : Int => [.sc (.int k z)]) (fun z => (Lit.int k z).wf = true) := fun enc W base spare held fuel cs x _ h => by
  obtain ⟨z, rfl, _, hw⟩ := DataW.trod_int ht h
  exact ⟨z, hw, .one (.sc _)⟩
theorem Dec.bool (ht : P.underlying t = some .bool) : Dec P n t (fun z : Bool => [.sc (.bool z)]) (fun _ => True) := fun enc W base spare held fuel cs x _ h => by
  obtain ⟨z, rfl, _⟩ := DataW.trod_bool ht h
  exact ⟨z, trivial, .one (.sc _)⟩
theorem Dec.str (ht : P.underlying t = some .string) : Dec P n t (fun z : ByteArray => [.sc (.string z)]) (fun z => z.size ≤ maxLen) := fun enc W base spare held fuel cs x _ h => by
  obtain ⟨z, rfl, _, hw⟩ := DataW.trod_string ht h
  exact ⟨z, hw, .one (.sc _)⟩
theorem Dec.ok {X : Type} {ds : X → List D} {ok ok' : X → Prop} (h : Dec P n t ds ok) (k : ∀ a, ok a → ok' a) : Dec P n t ds ok' := fun enc W base spare held fuel cs x hn hx => by
  obtain ⟨a, h1, h2⟩ := h enc W base spare held fuel cs x hn hx
  exact ⟨a, k a h1, h2⟩
theorem Dec.mono {X : Type} {ds : X → List D} {ok : X → Prop} {m : Nat} (h : Dec P n t ds ok) (k : m ≤ n) : Dec P m t ds ok := fun enc W base spare held fuel cs x hn hx => h enc W base spare held fuel cs x (by omega) hx

theorem list_choice {X : Type} {p : Nat → X → Prop} : ∀ (n : Nat), (∀ i, i < n → ∃ a, p i a) → ∃ l : List X, l.length = n ∧ ∀ (i : Nat) (a : X), l[i]? = some a → p i a
  | 0, _ => ⟨[], rfl, by simp⟩
  | n + 1, h => by
    obtain ⟨l, h1, h2⟩ := list_choice n fun i hi => h i (by omega)
    obtain ⟨a, ha⟩ := h n (by omega)
    refine ⟨l ++ [a], by simp [h1], fun i b hb => ?_⟩
    by_cases hi : i < l.length
    · rw [List.getElem?_append_left hi] at hb; exact h2 i b hb
    · rw [List.getElem?_append_right (by omega)] at hb
      obtain ⟨hz, hb⟩ := List.getElem?_eq_some_iff.1 hb
      simp at hz
      have : i = n := by omega
      subst this
      subst hb
      simpa using ha

theorem Dec.slice {X : Type} {ds : X → List D} {ok : X → Prop} {e : TypeId} {sz : Nat} (ht : P.underlying t = some (.slice e)) (hsz : P.cellsOf e = sz) (h0 : 0 < sz) (hlen : ∀ a, (ds a).length = sz) (h : Dec P n e ds ok) :
    Dec P (n + 1) t (fun l : List X => [.sl sz (l.map ds)]) (fun l => l.length ≤ maxLen ∧ ∀ a ∈ l, ok a) := fun enc W base spare held fuel cs x hn hx => by
  rcases DataW.trod_slice ht hx with ⟨rfl, _⟩ | ⟨a, len, cap, elems, rest, m, rfl, rfl, _, hb, hl, hm, hel, helems, _, _⟩
  · exact ⟨[], ⟨by simp [maxLen], by simp⟩, .one (.nil sz)⟩
  · have each : ∀ i, i < len → ∃ y : X, ok y ∧ ∃ vs, RdL (V0 W) (ds y) vs ∧ vs.length = sz ∧ ∀ j, j < sz → W.cell? ((a.add (i * sz)).add j) = vs[j]? := fun i hi => by
      have hh := helems i hi
      have hel' : elems[i]? = some (elems[i]'(by omega)) := List.getElem?_eq_getElem (by omega)
      rw [hel', hsz, Option.bind_eq_some_iff] at hh
      obtain ⟨vs, hvs, htr⟩ := hh
      obtain ⟨_, k1, k2⟩ := World.cells?_some hvs
      obtain ⟨y, hy, hR⟩ := h enc W base spare held m vs _ (by omega) htr
      exact ⟨y, hy, vs, hR, k1, k2⟩
    by_cases hz : len = 0
    · subst hz
      exact ⟨[], ⟨by simp [maxLen], by simp⟩, .one (by simpa using Rd.emp sz a cap hm)⟩
    · obtain ⟨l, hll, hl2⟩ := list_choice len each
      have hspot : a.spot = none := by
        obtain ⟨y, _, vs, hR, k1, k2⟩ := each 0 (by omega)
        have := k2 0 h0
        rw [List.getElem?_eq_getElem (by omega)] at this
        have hs := World.cell?_spot this
        simpa [Addr.add] using hs
      obtain ⟨b, o, spot⟩ := a
      simp only at hspot
      subst hspot
      have cell : ∀ (i : Nat) (r : List D) (j : Nat) (d : D), (l.map ds)[i]? = some r → r[j]? = some d → ∃ u, W.cell? ⟨b, o + i * sz + j, none⟩ = some u ∧ Rd (V0 W) d u := by
        intro i r j d hr hd
        rw [List.getElem?_map] at hr
        cases hy : l[i]? with
        | none => rw [hy] at hr; cases hr
        | some y =>
          rw [hy] at hr; cases hr
          obtain ⟨_, vs, hR, k1, k2⟩ := hl2 i y hy
          have hj : j < sz := by rw [← hlen y]; exact (List.getElem?_eq_some_iff.1 hd).1
          have := k2 j hj
          rw [add_lit, add_lit, List.getElem?_eq_getElem (by omega)] at this
          exact ⟨_, this, hR.2 j d _ hd (List.getElem?_eq_getElem (by omega))⟩
      have hml : l.length = (l.map ds).length := by simp
      refine ⟨l, ⟨by unfold maxLen at *; omega, fun y hy => ?_⟩, .one ?_⟩
      · obtain ⟨i, hi⟩ := List.mem_iff_getElem?.1 hy
        exact (hl2 i y hi).1
      · rw [← hll, hml]
        refine .sl sz _ b o cap (fun i j => (W.cell? ⟨b, o + i * sz + j, none⟩).getD undef) (by simp; omega) hm (fun i r hr => ?_) (fun i r j d hr hd => ?_) (fun i r j d hr hd => ?_)
        · rw [List.getElem?_map] at hr
          cases hy : l[i]? with
          | none => rw [hy] at hr; cases hr
          | some y => rw [hy] at hr; cases hr; exact hlen y
        · obtain ⟨u, h1, _⟩ := cell i r j d hr hd
          rw [h1]
          exact view_mk h1 (by simp) (by simp)
        · obtain ⟨u, h1, h2⟩ := cell i r j d hr hd
          rw [h1]; exact h2

theorem Dec.field {H : Type} {enc : TypeId × Value → H} {W : World} {base : Nat} {spare : Nat → Bool} {held : Bool} {X : Type} {ds : X → List D} {ok : X → Prop} (hd : Dec P n t ds ok) {m o k i : Nat} {cs : List Value} {xs : List (DataW H × List MemPlace)} (hm : m ≤ n)
    (hf : DataW.trod enc P W base spare held m t ((cs.drop o).take k) = xs[i]?) (hi : i < xs.length) : ∃ a, ok a ∧ RdP (V0 W) (ds a) cs o := by
  rw [List.getElem?_eq_getElem hi] at hf
  obtain ⟨a, h1, h2, h3⟩ := hd enc W base spare held m _ _ hm hf
  refine ⟨a, h1, fun j d hj => ?_⟩
  have hl : j < ((cs.drop o).take k).length := by rw [← h2]; exact (List.getElem?_eq_some_iff.1 hj).1
  have hv := List.getElem?_eq_getElem hl
  have h4 := h3 j d _ hj hv
  rw [List.getElem?_take, List.getElem?_drop] at hv
  split at hv
  · exact ⟨_, hv, h4⟩
  · cases hv
end

/-! ### Arguments -/
section
variable {H : Type} {enc : TypeId × Value → H} {P : Program} {W : World} {base b0 : Nat} {spare : Nat → Bool} {held : Bool} {r : Reach} {t : TypeId} {v : Value} {d : DataW H} {ps : List MemPlace}
theorem arg_struct {fs : Array Field} {X : Type} {ds : X → List D} {ok : X → Prop} (ht : P.underlying t = some (.struct fs)) (hd : ∀ n, Dec P n t ds ok) (hv : Value.okWide P W r b0 t v) (h : DataW.Trod enc P W base spare held t v d ps) : ∃ a, ok a ∧ Rd (V0 W) (.ag (ds a)) v := by
  obtain ⟨cs, rfl, _⟩ := okWide_struct ht hv
  obtain ⟨fuel, hf⟩ := h
  obtain ⟨a, h1, h2⟩ := hd fuel enc W base spare held fuel _ _ (Nat.le_refl _) hf
  exact ⟨a, h1, RdL.ag (by simpa [Value.cells] using h2)⟩
theorem arg_slice {e : TypeId} {X : Type} {dd : X → D} {ok : X → Prop} (ht : P.underlying t = some (.slice e)) (hd : ∀ n, Dec P n t (fun a => [dd a]) ok) (hv : Value.okWide P W r b0 t v) (h : DataW.Trod enc P W base spare held t v d ps) : ∃ a, ok a ∧ Rd (V0 W) (dd a) v := by
  obtain ⟨x, len, cap, rfl⟩ := okWide_slice ht hv
  obtain ⟨fuel, hf⟩ := h
  obtain ⟨a, h1, h2⟩ := hd fuel enc W base spare held fuel _ _ (Nat.le_refl _) hf
  exact ⟨a, h1, RdL.get1 (by simpa [Value.cells] using h2)⟩
theorem arg_int {k : IntKind} (ht : P.underlying t = some (.int k)) (hv : Value.okWide P W r b0 t v) (h : DataW.Trod enc P W base spare held t v d ps) : ∃ a, (Lit.int k a).wf = true ∧ Rd (V0 W) (.sc (.int k a)) v := by
  obtain ⟨n, rfl, _, _, hw⟩ := open_int ht hv h
  exact ⟨n, hw, .sc _⟩
theorem arg_str (ht : P.underlying t = some .string) (hv : Value.okWide P W r b0 t v) (h : DataW.Trod enc P W base spare held t v d ps) : ∃ a : ByteArray, a.size ≤ maxLen ∧ Rd (V0 W) (.sc (.string a)) v := by
  obtain ⟨s, rfl⟩ := okWide_string ht hv
  obtain ⟨fuel, hf⟩ := h
  obtain ⟨s', h1, _, hs⟩ := DataW.trod_string ht hf
  simp [Value.cells] at h1
  subst h1
  exact ⟨s, hs, .sc _⟩
theorem arg_bool (ht : P.underlying t = some .bool) (hv : Value.okWide P W r b0 t v) (h : DataW.Trod enc P W base spare held t v d ps) : ∃ a : Bool, True ∧ Rd (V0 W) (.sc (.bool a)) v := by
  obtain ⟨fuel, hf⟩ := h
  obtain ⟨b, h1, _⟩ := DataW.trod_bool ht hf
  have hb : v = .bool b := by
    simp only [Value.okWide, ht, Cell.okWide] at hv
    cases v <;> simp_all [Value.cells, Cell.ok]
  exact ⟨b, trivial, by rw [hb]; exact .sc _⟩
theorem trod_blocks (h : DataW.Trod enc P W base spare held t v d ps) : ∀ x ∈ ps, x.block < W.heap.size := by
  obtain ⟨m, hm⟩ := h
  exact DataW.trod_lt m _ _ _ hm
end
theorem rd_zip {V : View} {as : List D} {vs : List Value} (h : ∀ x ∈ as.zip vs, Rd V x.1 x.2) : ∀ (i : Nat) (d : D) (v : Value), as[i]? = some d → vs[i]? = some v → Rd V d v := fun i d v hd hv =>
  h (d, v) (List.mem_iff_getElem?.2 ⟨i, by rw [List.getElem?_zip_eq_some]; exact ⟨hd, hv⟩⟩)
theorem rd_bool {V : View} {b : Bool} {v : Value} (h : Rd V (.sc (.bool b)) v) : v = .bool b := by cases h; rfl
end Go.Fw
