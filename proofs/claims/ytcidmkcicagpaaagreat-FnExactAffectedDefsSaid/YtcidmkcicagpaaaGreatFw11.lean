/-
  Rows that a call takes over and hands back: a list that grows through calls. No condition.
-/
import Derived.Test.YtcidmkcicagpaaaGreatFw10
namespace Go.Fw
open Go.RowKit

/-- A list's value, and the block in which it lies. -/
def OwnL (w : World) (M : Nat → Prop) (e : TypeId) (sz : Nat) (rows : List (List D)) (v : Value) : Option Nat → Prop
  | none => rows = [] ∧ v = .slice none 0 0
  | some b => ∃ c us, v = .slice (some ⟨b, 0, none⟩) rows.length c ∧ w.heap[b]? = some (.cells us e (0, 0)) ∧ us.size = c * sz ∧ (c ≤ maxLen ∧ rows.length ≤ c) ∧ rows.flatten.length ≤ us.size ∧
      ∀ (j : Nat) (d : D), rows.flatten[j]? = some d → ∃ u, us[j]? = some u ∧ Rd (view w (fun k => M k ∨ k = b) (fun _ => none) noN) d u
/-- A contract with a list that the call may write, and that it hands back, grown or not. -/
structure SpL (P : Program) (f : FuncId) (pre post : List D) (e : TypeId) (sz : Nat) (rows rows' : List (List D)) : Prop where
  ok : callable P f
  cl : ∀ d ∈ rows.flatten, Cl d
  cl' : ∀ d ∈ rows'.flatten, Cl d
  run : ∀ (w : World) (M : Nat → Prop) (us vs : List Value) (u : Value) (x : Option Nat), (∀ b, M b → b < w.heap.size) → (∀ b, x = some b → ¬ M b) → pre.length = us.length → post.length = vs.length →
    (∀ (i : Nat) (d : D) (v : Value), pre[i]? = some d → us[i]? = some v → Rd (view w (fun b => M b ∨ x = some b) (fun _ => none) noN) d v) →
    (∀ (i : Nat) (d : D) (v : Value), post[i]? = some d → vs[i]? = some v → Rd (view w (fun b => M b ∨ x = some b) (fun _ => none) noN) d v) →
    OwnL w M e sz rows u x →
    Calls P f (us ++ u :: vs).toArray w fun z w' => ∃ v y, z = .returned v ∧ (mkB w M fun b => x = some b).Ok w' ∧ OwnL w' M e sz rows' v y ∧ ∀ b, y = some b → w.heap.size ≤ b ∨ x = some b

section
variable {P : Program} {w0 : Bs} {M : Nat → Prop} {g : Nat → Option (Nat × Nat × Nat)} {s : St} {a : Act} {w : World}
theorem upd_upd {α : Type} (f : Nat → Option α) (t : Nat) (x y : Option α) : upd (upd f t x) t y = upd f t y := by
  funext i; unfold upd; split <;> rfl

/-- An object is given up: its block is nobody's. -/
theorem Rep.dropL (h : Rep w0 M g s a w) {w' : World} (t0 : Nat)
    (hsame : ∀ k, k < w.heap.size → (∀ x c, g t0 ≠ some (x, k, c)) → w'.heap[k]? = w.heap[k]?) (hos : w'.os = w.os) (htape : w'.tape = w.tape) (hout : w'.output = w.output) (hsize : w.heap.size ≤ w'.heap.size) :
    Rep w0 M (upd g t0 none) { s with H := upd s.H t0 none } a w' := by
  have old : ∀ s' y, upd g t0 none s' = some y → s' ≠ t0 ∧ g s' = some y := by
    intro s' y e
    by_cases h0 : s' = t0
    · subst h0; rw [upd_same] at e; cases e
    · rw [upd_ne _ _ h0] at e; exact ⟨h0, e⟩
  have hx : (view w M g s.n).Ext (view w' M (upd g t0 none) s.n) := by
    refine ⟨fun b o u e => ?_, fun _ => Nat.le_refl _, fun s' x b c _ e => (old _ _ e).2⟩
    have hc := view_cell e
    obtain ⟨h1, h2⟩ := view_free e
    exact view_mk ((cell_same (hsame b (lt_of_cell hc) fun x c => h2 _ _ _)).trans hc) h1 fun s' x c k => h2 _ _ _ (old _ _ k).2
  have hother : ∀ t' x b c, t' ≠ t0 → g t' = some (x, b, c) → ∀ x' c', g t0 ≠ some (x', b, c') := fun t' x b c hne e x' c' e' => hne (h.inj _ _ _ _ _ _ _ e e')
  refine ⟨h.defers, h.size, fun i => (h.env i).mono hx, fun t' ob' ht' => ?_, fun t' x b c e => ⟨(h.base _ _ _ _ (old _ _ e).2).1, Nat.lt_of_lt_of_le (h.base _ _ _ _ (old _ _ e).2).2 hsize⟩, fun t1 t2 x b c x' c' e1 e2 => h.inj _ _ _ _ _ _ _ (old _ _ e1).2 (old _ _ e2).2, ?_,
    fun b k => ⟨Nat.lt_of_lt_of_le (h.m0 b k).1 hsize, fun t' x c e => (h.m0 b k).2 _ _ _ (old _ _ e).2⟩, h.mm, h.zm, tree_keep (s := s) h fun b k => hsame b (h.m0 b k).1 fun x c => (h.m0 b k).2 _ _ _, h.nd, fun x e => ⟨(h.og x e).1, fun b c e' => (h.og x e).2 _ _ (old _ _ e').2⟩⟩
  · simp only at ht'
    by_cases h0 : t' = t0
    · subst h0; rw [upd_same] at ht'; cases ht'
    · rw [upd_ne _ _ h0] at ht'
      refine (h.obj t' ob' ht').mono hx fun x b c e => ⟨?_, hsame b (h.base _ _ _ _ e).2 (hother _ _ _ _ h0 e)⟩
      show upd _ t0 _ t' = _
      rw [upd_ne _ _ h0]; exact e
  · exact h.below.step hos htape hout hsize fun k hk => hsame k (Nat.lt_of_lt_of_le (Bs.not_own hk) h.below.size) fun x c e => hk (h.base _ _ _ _ e).1

/-- An object turns to another, under another slot: its block may turn, whether it serves on or not. -/
theorem Rep.rebindL (h : Rep w0 M g s a w) {w' : World} (t0 t b' c' : Nat) (vs : Array Value) (ob : Ob) (hgen : ob.gen = s.n t)
    (hsame : ∀ k, k < w.heap.size → (∀ x c, g t0 ≠ some (x, k, c)) → w'.heap[k]? = w.heap[k]?) (hb' : w.heap.size ≤ b' ∨ ∃ x c, g t0 = some (x, b', c))
    (hlt : b' < w'.heap.size) (hheap : HeapIs w' b' ob vs) (hsz : ob.keys = none → vs.size = c' * ob.sz) (hc : c' ≤ maxLen) (hlen : ob.cells.length ≤ vs.size)
    (hcells : ∀ (j : Nat) (d : D), ob.cells[j]? = some d → ∃ u, vs[j]? = some u ∧ Rd (view w' M (upd (upd g t0 none) t (some (s.n t, b', c'))) (bump s.n t)) d u)
    (hos : w'.os = w.os) (htape : w'.tape = w.tape) (hout : w'.output = w.output) (hsize : w.heap.size ≤ w'.heap.size) :
    Rep w0 M (upd (upd g t0 none) t (some (s.n t, b', c'))) { s with H := upd (upd s.H t0 none) t (some ob), n := bump s.n t } a w' := by
  have old : ∀ s' y, s' ≠ t → upd (upd g t0 none) t (some (s.n t, b', c')) s' = some y → s' ≠ t0 ∧ g s' = some y := by
    intro s' y hs e
    rw [upd_ne _ _ hs] at e
    by_cases h0 : s' = t0
    · subst h0; rw [upd_same] at e; cases e
    · rw [upd_ne _ _ h0] at e; exact ⟨h0, e⟩
  have hother : ∀ t' x b c, t' ≠ t0 → g t' = some (x, b, c) → (b ≠ b') ∧ ∀ x' c', g t0 ≠ some (x', b, c') := by
    intro t' x b c hne e
    have h2 : ∀ x' c', g t0 ≠ some (x', b, c') := fun x' c' e' => hne (h.inj _ _ _ _ _ _ _ e e')
    refine ⟨fun hbb => ?_, h2⟩
    subst hbb
    rcases hb' with e' | ⟨x', c', e'⟩
    · have := (h.base _ _ _ _ e).2; omega
    · exact h2 _ _ e'
  have hMb : ∀ b, M b → b ≠ b' := by
    rintro b k rfl
    rcases hb' with e | ⟨x, c, e⟩
    · have := (h.m0 b k).1; omega
    · exact (h.m0 b k).2 _ _ _ e
  have hx : (view w M g s.n).Ext (view w' M (upd (upd g t0 none) t (some (s.n t, b', c'))) (bump s.n t)) := by
    refine ⟨fun b o u e => ?_, bump_le _ _, fun s' x b c hx e => ?_⟩
    · have hc := view_cell e
      obtain ⟨h1, h2⟩ := view_free e
      refine view_mk ((cell_same (hsame b (lt_of_cell hc) fun x c => h2 _ _ _)).trans hc) h1 fun s' x c k => ?_
      by_cases hs : s' = t
      · subst hs; rw [upd_same] at k; cases k
        rcases hb' with e' | ⟨x', c', e'⟩
        · have := lt_of_cell hc; omega
        · exact h2 _ _ _ e'
      · exact h2 _ _ _ (old _ _ hs k).2
    · have hx : x < s.n s' := hx
      by_cases hs : s' = t
      · subst hs
        have e : upd (upd g t0 none) s' (some (s.n s', b', c')) s' = some (x, b, c) := e
        rw [upd_same] at e; simp only [Option.some.injEq, Prod.mk.injEq] at e; omega
      · exact (old _ _ hs e).2
  have hbase : w0.own b' := by
    rcases hb' with e | ⟨x, c, e⟩
    · have := h.below.size; exact .inl (by omega)
    · exact (h.base _ _ _ _ e).1
  refine ⟨h.defers, h.size, fun i => (h.env i).mono hx, fun t' ob' ht' => ?_, fun t' x b c e => ?_, fun t1 t2 x b c x' c' e1 e2 => ?_, ?_, fun b k => ⟨Nat.lt_of_lt_of_le (h.m0 b k).1 hsize, fun t' x c e => ?_⟩, h.mm, h.zm, tree_keep (s := s) h fun b k => hsame b (h.m0 b k).1 fun x c => (h.m0 b k).2 _ _ _, h.nd, fun x e => ⟨Nat.le_trans (h.og x e).1 (bump_le _ _ _), fun b c e' => ?_⟩⟩
  · by_cases hs : t' = t
    · subst hs
      simp only [upd_same, Option.some.injEq] at ht'
      subst ht'
      exact ⟨by show ob.gen < bump s.n t' t'; rw [bump_same]; omega, b', c', vs, by show upd _ t' _ t' = _; rw [upd_same, hgen], hheap, hsz, hc, hlen, hcells⟩
    · simp only [upd_ne _ _ hs] at ht'
      by_cases h0 : t' = t0
      · subst h0; rw [upd_same] at ht'; cases ht'
      · rw [upd_ne _ _ h0] at ht'
        refine (h.obj t' ob' ht').mono hx fun x b c e => ⟨?_, ?_⟩
        · show upd _ t _ t' = _; rw [upd_ne _ _ hs, upd_ne _ _ h0]; exact e
        · exact hsame b (h.base _ _ _ _ e).2 (hother _ _ _ _ h0 e).2
  · by_cases hs : t' = t
    · subst hs; rw [upd_same] at e; cases e; exact ⟨hbase, hlt⟩
    · have e := (old _ _ hs e).2; exact ⟨(h.base _ _ _ _ e).1, Nat.lt_of_lt_of_le (h.base _ _ _ _ e).2 hsize⟩
  · by_cases hs1 : t1 = t
    · by_cases hs2 : t2 = t
      · rw [hs1, hs2]
      · subst hs1
        rw [upd_same] at e1; cases e1
        obtain ⟨n2, k2⟩ := old _ _ hs2 e2
        exact absurd rfl (hother _ _ _ _ n2 k2).1
    · obtain ⟨n1, k1⟩ := old _ _ hs1 e1
      by_cases hs2 : t2 = t
      · subst hs2
        rw [upd_same] at e2; cases e2
        exact absurd rfl (hother _ _ _ _ n1 k1).1
      · exact h.inj _ _ _ _ _ _ _ k1 (old _ _ hs2 e2).2
  · exact h.below.step hos htape hout hsize fun k hk => hsame k (Nat.lt_of_lt_of_le (Bs.not_own hk) h.below.size) fun x c e => hk (h.base _ _ _ _ e).1
  · by_cases hs : t' = t
    · subst hs; rw [upd_same] at e; cases e; exact hMb _ k rfl
    · exact (h.m0 b k).2 _ _ _ (old _ _ hs e).2
  · by_cases hs : 0 = t
    · subst hs; rw [upd_same] at e'; have := (h.og x e).1; simp only [Option.some.injEq, Prod.mk.injEq] at e'; omega
    · exact (h.og x e).2 _ _ (old _ _ hs e').2

/-- A variable that holds a list of the call's own: nil, or an object. -/
def Lst (S : List Nat) (H : Nat → Option Ob) (e : TypeId) (sz : Nat) (rows : List (List D)) (x : D) : Prop :=
  (rows = [] ∧ x = .sc (.slice none 0 0)) ∨ ∃ t gn, t ∈ S ∧ x = .ms t gn rows.length ∧ H t = some ⟨gn, e, sz, rows.flatten, none⟩
theorem Lst.congr {S : List Nat} {H H' : Nat → Option Ob} {e : TypeId} {sz : Nat} {rows : List (List D)} {x : D} (h : Lst S H e sz rows x) (k : ∀ t ∈ S, H' t = H t) : Lst S H' e sz rows x := by
  rcases h with h | ⟨t, gn, h1, h2, h3⟩
  · exact .inl h
  · exact .inr ⟨t, gn, h1, h2, (k t h1).trans h3⟩
theorem Lst.sub {S S' : List Nat} {H : Nat → Option Ob} {e : TypeId} {sz : Nat} {rows : List (List D)} {x : D} (h : Lst S H e sz rows x) (k : ∀ t ∈ S, t ∈ S') : Lst S' H e sz rows x := by
  rcases h with h | ⟨t, gn, h1, h2, h3⟩
  · exact .inl h
  · exact .inr ⟨t, gn, k t h1, h2, h3⟩
def offX (H : Nat → Option Ob) : D → Nat → Option Ob
  | .ms t _ _ => upd H t none
  | _ => H

/-- Values split as the data are. -/
theorem split_vals {pre post : List D} {x : D} {vs : List Value} {V : View} (hl : (pre ++ x :: post).length = vs.length) (hv : ∀ (i : Nat) (d : D) (v : Value), (pre ++ x :: post)[i]? = some d → vs[i]? = some v → Rd V d v) :
    ∃ us u ws, vs = us ++ u :: ws ∧ pre.length = us.length ∧ post.length = ws.length ∧ Rd V x u ∧ (∀ (i : Nat) (d : D) (v : Value), pre[i]? = some d → us[i]? = some v → Rd V d v) ∧ ∀ (i : Nat) (d : D) (v : Value), post[i]? = some d → ws[i]? = some v → Rd V d v := by
  induction pre generalizing vs with
  | nil =>
    cases vs with
    | nil => simp at hl
    | cons u ws => exact ⟨[], u, ws, rfl, rfl, by simpa using hl, hv 0 x u rfl rfl, by simp, fun i d v h1 h2 => hv (i + 1) d v (by simpa using h1) (by simpa using h2)⟩
  | cons d pre ih =>
    cases vs with
    | nil => simp at hl
    | cons v vs =>
      obtain ⟨us, u, ws, rfl, h1, h2, h3, h4, h5⟩ := ih (vs := vs) (by simpa using hl) fun i d v h1 h2 => hv (i + 1) d v (by simpa using h1) (by simpa using h2)
      refine ⟨v :: us, u, ws, rfl, by simp [h1], h2, h3, fun i d' v' q1 q2 => ?_, h5⟩
      cases i with
      | zero => simp at q1 q2; subst q1; subst q2; exact hv 0 _ _ rfl rfl
      | succ i => exact h4 i d' v' (by simpa using q1) (by simpa using q2)

theorem callL_sound {f : FuncId} {t : Nat} {pre post : List D} {x : D} {e : TypeId} {sz : Nat} {rows rows' : List (List D)} {K : St → Prop} {S : List Nat} (h : SpL P f pre post e sz rows rows') (hx : Lst S s.H e sz rows x)
    (hcl : ∀ d ∈ pre ++ post, Cl d) (hK0 : rows' = [] → K ({ s with H := offX s.H x }.put (some t) (.sc (.slice none 0 0))))
    (hK1 : K ((newOb { s with H := offX s.H x } t e sz rows'.flatten).put (some t) (.ms t (s.n t) rows'.length))) : callX P s f (pre ++ x :: post) (some t) K := by
  intro w0 M g a w env hr vs hl hv
  obtain ⟨us, u, ws, rfl, h1, h2, h3, h4, h5⟩ := split_vals hl hv
  refine ⟨h.ok, ?_⟩
  rcases hx with ⟨rfl, rfl⟩ | ⟨t0, gn, -, rfl, hob⟩
  · cases h3
    have hrd : ∀ {d : D} {v : Value}, Cl d → Rd (view w M g s.n) d v → Rd (view w (fun b => (M b ∨ ∃ t x c, g t = some (x, b, c)) ∨ (none : Option Nat) = some b) (fun _ => none) noN) d v := fun hd k => k.closed (fun b o u q => by
      obtain ⟨q1, q2⟩ := view_free q
      refine view_mk (view_cell q) ?_ (by simp)
      rintro ((k | ⟨t, x, c, k⟩) | k)
      · exact q1 k
      · exact q2 _ _ _ k
      · cases k) hd
    refine (h.run w (fun b => M b ∨ ∃ t x c, g t = some (x, b, c)) us ws _ none (fun b k => ?_) (by simp) h1 h2 (fun i d v q1 q2 => hrd (hcl d (by simp [List.mem_of_getElem? q1])) (h4 i d v q1 q2)) (fun i d v q1 q2 => hrd (hcl d (by simp [List.mem_of_getElem? q1])) (h5 i d v q1 q2)) ⟨rfl, rfl⟩).mono ?_
    · rcases k with k | ⟨t, x, c, k⟩
      · exact (hr.m0 b k).1
      · exact (hr.base _ _ _ _ k).2
    rintro z w' ⟨v, y, rfl, hok, ho, hy⟩
    have hb : Below w.heap.size w w' := bs_below hok (by simp)
    refine ⟨v, ?_⟩
    cases y with
    | none =>
      obtain ⟨hn, rfl⟩ := ho
      exact ⟨_, s.H, s.n, s.T, g, M, rfl, hr.grow hb, .sc _, hK0 hn⟩
    | some b =>
      obtain ⟨c, us', rfl, hheap, hsz, hc, hlen, hcells⟩ := ho
      have hge : w.heap.size ≤ b := by
        rcases hy b rfl with k | k
        · exact k
        · cases k
      have hr' := hr.rebind_at (w' := w') t t b c us' { gen := s.n t, elem := e, sz, cells := rows'.flatten } rfl (fun k hk _ => hb.block k hk) (.inl hge) (lt_of_heap hheap) (.of hheap rfl) (fun _ => hsz) hc.1 hlen
        (fun j d hd => by
          obtain ⟨u, h1, h2⟩ := hcells j d hd
          refine ⟨u, h1, h2.mono ⟨fun b' o u e => ?_, fun _ => Nat.zero_le _, fun s x b c hx e => absurd hx (Nat.not_lt_zero _)⟩⟩
          obtain ⟨k1, _⟩ := view_free e
          refine view_mk (view_cell e) (fun k => k1 (.inl (.inl k))) fun t' x c' k => ?_
          by_cases ht : t' = t
          · subst ht; rw [upd_same] at k; cases k; exact k1 (.inr rfl)
          · rw [upd_ne _ _ ht, upd_ne _ _ ht] at k; exact k1 (.inl (.inr ⟨_, _, _, k⟩))) hb.os hb.tape hb.output hb.size
      exact ⟨_, _, _, s.T, _, M, rfl, hr', ms_rd (by show s.n t < bump s.n t t; rw [bump_same]; omega) hc.2 (upd_same _ _ _), hK1⟩
  · obtain ⟨q0, b0, c0, vs0, hgt, hheap0, hsz0, hc0, hlen0, hcells0⟩ := hr.obj t0 _ hob
    have hgt : g t0 = some (gn, b0, c0) := hgt
    have hheap0 := hheap0.cells rfl
    cases h3 with | ms _ _ _ ad cap hgl hx =>
    obtain ⟨rfl, rfl⟩ := hx b0 c0 hgt
    have hM0 : ¬ M b0 := fun k => (hr.m0 b0 k).2 _ _ _ hgt
    have hrd : ∀ {d : D} {v : Value}, Cl d → Rd (view w M g s.n) d v → Rd (view w (fun b => (M b ∨ ∃ t x c, g t = some (x, b, c) ∧ b ≠ b0) ∨ some b0 = some b) (fun _ => none) noN) d v := fun hd k => k.closed (fun b o u q => by
      obtain ⟨q1, q2⟩ := view_free q
      refine view_mk (view_cell q) ?_ (by simp)
      rintro ((k | ⟨t, x, c, k, _⟩) | k)
      · exact q1 k
      · exact q2 _ _ _ k
      · cases k; exact q2 _ _ _ hgt) hd
    refine (h.run w (fun b => M b ∨ ∃ t x c, g t = some (x, b, c) ∧ b ≠ b0) us ws _ (some b0) (fun b k => ?_) ?_ h1 h2 (fun i d v q1 q2 => hrd (hcl d (by simp [List.mem_of_getElem? q1])) (h4 i d v q1 q2)) (fun i d v q1 q2 => hrd (hcl d (by simp [List.mem_of_getElem? q1])) (h5 i d v q1 q2)) ⟨cap, vs0, rfl, hheap0, hsz0 rfl, ⟨hc0, hgl.2⟩, hlen0, fun j d hj => ?_⟩).mono ?_
    · rcases k with k | ⟨t, x, c, k, _⟩
      · exact (hr.m0 b k).1
      · exact (hr.base _ _ _ _ k).2
    · rintro b hb (k | ⟨t, x, c, k, hne⟩)
      · cases hb; exact hM0 k
      · cases hb; exact hne rfl
    · obtain ⟨u, k1, k2⟩ := hcells0 j d hj
      have := hrd (h.cl d (List.mem_of_getElem? hj)) k2
      exact ⟨u, k1, this.mono (view_le fun b k => k.elim .inl fun k => .inr (by rw [k]))⟩
    rintro z w' ⟨v, y, rfl, hok, ho, hy⟩
    refine ⟨v, ?_⟩
    have hsame : ∀ k, k < w.heap.size → (∀ x c, g t0 ≠ some (x, k, c)) → w'.heap[k]? = w.heap[k]? := fun k hk hne => hok.block k fun q => by
      rcases q with q | q
      · exact absurd q (by simp only; omega)
      · cases q; exact hne _ _ hgt
    cases y with
    | none =>
      obtain ⟨hn, rfl⟩ := ho
      exact ⟨_, _, s.n, s.T, _, M, rfl, hr.dropL t0 hsame hok.os hok.tape hok.output hok.size, .sc _, hK0 hn⟩
    | some b =>
      obtain ⟨c, us', rfl, hheap, hsz, hc, hlen, hcells⟩ := ho
      have hr' := hr.rebindL (w' := w') t0 t b c us' { gen := s.n t, elem := e, sz, cells := rows'.flatten } rfl hsame (by
          rcases hy b rfl with k | k
          · exact .inl k
          · cases k; exact .inr ⟨_, _, hgt⟩) (lt_of_heap hheap) (.of hheap rfl) (fun _ => hsz) hc.1 hlen
        (fun j d hd => by
          obtain ⟨u, h1, h2⟩ := hcells j d hd
          refine ⟨u, h1, h2.mono ⟨fun b' o u e => ?_, fun _ => Nat.zero_le _, fun s x b c hx e => absurd hx (Nat.not_lt_zero _)⟩⟩
          obtain ⟨k1, _⟩ := view_free e
          refine view_mk (view_cell e) (fun k => k1 (.inl (.inl k))) fun t' x c' k => ?_
          by_cases ht : t' = t
          · subst ht; rw [upd_same] at k; cases k; exact k1 (.inr rfl)
          · rw [upd_ne _ _ ht] at k
            by_cases ht0 : t' = t0
            · subst ht0; rw [upd_same] at k; cases k
            · rw [upd_ne _ _ ht0] at k
              exact k1 (.inl (.inr ⟨_, _, _, k, fun e => ht0 (hr.inj _ _ _ _ _ _ _ (e ▸ k) hgt)⟩))) hok.os hok.tape hok.output hok.size
      have e1 : newOb { s with H := offX s.H (.ms t0 gn rows.length) } t e sz rows'.flatten = { s with H := upd (upd s.H t0 none) t (some { gen := s.n t, elem := e, sz, cells := rows'.flatten }), n := bump s.n t } := by
        simp only [newOb, offX, upd_upd]
      rw [e1] at hK1
      exact ⟨_, _, _, s.T, _, M, rfl, hr', ms_rd (by show s.n t < bump s.n t t; rw [bump_same]; omega) hc.2 (upd_same _ _ _), hK1⟩
end
/-- A call that takes over a list and hands it back. -/
theorem callK_list {P : Program} {s : St} {f : FuncId} {first caps args : List D} {t : Nat} {K : St → Prop} (S : List Nat) (pre post : List D) (x : D) (e : TypeId) (sz : Nat) (rows rows' : List (List D)) (h : SpL P f pre post e sz rows rows')
    (ha : first ++ args ++ caps = pre ++ x :: post) (hx : Lst S s.H e sz rows x) (hcl : ∀ d ∈ pre ++ post, Cl d)
    (hK : ∀ H n x', Lst [t] H e sz rows' x' → (∀ t', t' ≠ t → t' ∉ S → H t' = s.H t') → K ({ s with H := H, n := n }.put (some t) x')) : callK P s (.fn f first caps) args (some t) K := by
  refine .inr (.inr (.inr ?_))
  rw [ha]
  have hoff : ∀ t', t' ∉ S → offX s.H x t' = s.H t' := fun t' ht => by
    rcases hx with ⟨_, rfl⟩ | ⟨t0, gn, hs, rfl, _⟩
    · rfl
    · exact upd_ne _ _ fun e => ht (e ▸ hs)
  refine callL_sound h hx hcl (fun h0 => hK _ s.n _ (.inl ⟨h0, rfl⟩) fun t' _ ht => hoff t' ht) (hK _ _ _ (.inr ⟨t, s.n t, by simp, rfl, by simp [upd_same]⟩) fun t' h1 h2 => ?_)
  show upd (upd (offX s.H x) t none) t _ t' = _
  rw [upd_ne _ _ h1, upd_ne _ _ h1]
  exact hoff t' h2

/-! ### The contract out of a walk -/
def closeL (e : TypeId) (sz : Nat) (rows : List (List D)) (s : St) (d : D) : Prop := (rows = [] ∧ d = .sc (.slice none 0 0)) ∨ ∃ t ob, d = .ms t ob.gen rows.length ∧ s.H t = some ob ∧ ob.elem = e ∧ ob.sz = sz ∧ (∃ r, ob.cells = rows.flatten ++ r) ∧ ob.keys = none
def retL (P : Program) (rs : List ResultVar) (e : TypeId) (sz : Nat) (rows : List (List D)) : Exit → St → Prop
  | .normal, s => ∃ d, resD P s rs = some d ∧ closeL e sz rows s d
  | .ret, s => ∃ d, resD P s rs = some d ∧ closeL e sz rows s d
  | _, _ => False
/-- What such a call begins with, where the list lies in a block. -/
def stL (pre post : List D) (e : TypeId) (sz : Nat) (rows : List (List D)) (nt : Nat) : St :=
  { env := envOf (pre ++ .ms pre.length 0 rows.length :: post), H := upd noOb pre.length (some { gen := 0, elem := e, sz, cells := rows.flatten }), n := bump noN pre.length, nt }
theorem Rep.startL {w : World} {M : Nat → Prop} {pre post : List D} {us vs : List Value} {b c : Nat} {e : TypeId} {sz nt : Nat} {rows : List (List D)} {cs : Array Value} (hM : ∀ b, M b → b < w.heap.size) (hb : ¬ M b) (h1 : pre.length = us.length) (h2 : post.length = vs.length) (hle : pre.length + post.length + 1 ≤ nt)
    (hv1 : ∀ (i : Nat) (d : D) (v : Value), pre[i]? = some d → us[i]? = some v → Rd (view w (fun k => M k ∨ some b = some k) (fun _ => none) noN) d v)
    (hv2 : ∀ (i : Nat) (d : D) (v : Value), post[i]? = some d → vs[i]? = some v → Rd (view w (fun k => M k ∨ some b = some k) (fun _ => none) noN) d v)
    (hh : w.heap[b]? = some (.cells cs e (0, 0))) (hsz : cs.size = c * sz) (hc : c ≤ maxLen ∧ rows.length ≤ c) (hlen : rows.flatten.length ≤ cs.size)
    (hcells : ∀ (j : Nat) (d : D), rows.flatten[j]? = some d → ∃ u, cs[j]? = some u ∧ Rd (view w (fun k => M k ∨ k = b) (fun _ => none) noN) d u) :
    Rep ⟨w, M, fun k => some b = some k, none⟩ M (upd (fun _ => none) pre.length (some (0, b, c))) (stL pre post e sz rows nt)
      { tmps := (us ++ .slice (some ⟨b, 0, none⟩) rows.length c :: vs).toArray ++ Array.replicate (nt - (us ++ .slice (some ⟨b, 0, none⟩) rows.length c :: vs).toArray.size) undef, defers := [] } w := by
  have hg : ∀ s x b' c', upd (fun _ => none) pre.length (some (0, b, c)) s = some (x, b', c') → s = pre.length ∧ x = 0 ∧ b' = b ∧ c' = c := fun s x b' c' k => by
    by_cases hs : s = pre.length
    · subst hs; rw [upd_same] at k; cases k; exact ⟨rfl, rfl, rfl, rfl⟩
    · rw [upd_ne _ _ hs] at k; cases k
  have hx : (view w (fun k => M k ∨ some b = some k) (fun _ => none) noN).Ext (view w M (upd (fun _ => none) pre.length (some (0, b, c))) (bump noN pre.length)) :=
    ⟨fun b' o u k => view_mk (view_cell k) (fun q => (view_free k).1 (.inl q)) fun s x c' q => (view_free k).1 (.inr (by rw [(hg _ _ _ _ q).2.2.1])), fun _ => Nat.zero_le _, fun _ _ _ _ k _ => absurd k (Nat.not_lt_zero _)⟩
  have hlt := (Array.getElem?_eq_some_iff.1 hh).1
  have hms : Rd (view w M (upd (fun _ => none) pre.length (some (0, b, c))) (bump noN pre.length)) (.ms pre.length 0 rows.length) (.slice (some ⟨b, 0, none⟩) rows.length c) :=
    .ms _ _ _ _ _ ⟨by show 0 < bump noN _ _; rw [bump_same]; omega, hc.2⟩ fun b' c' k => by
      obtain ⟨_, _, e1, e2⟩ := hg _ _ _ _ k
      rw [e1, e2]; exact ⟨rfl, rfl⟩
  have hsize : (us ++ Value.slice (some ⟨b, 0, none⟩) rows.length c :: vs).toArray.size = pre.length + post.length + 1 := by simp; omega
  refine ⟨rfl, ?_, fun i => ?_, fun t ob ht => ?_, fun t x b' c' k => ?_, fun t t' x b' c' x' c'' k k' => ?_, ⟨rfl, rfl, rfl, Nat.le_refl _, fun _ _ => rfl⟩, fun b' k => ⟨hM b' k, fun t x c' q => ?_⟩, fun b' => by simp [stL], fun b' k q => ?_, by simp [stL], by simp [stL], fun x k => by cases k⟩
  · simp only [Array.size_append, Array.size_replicate, hsize, stL]; omega
  · show Rd _ ((pre ++ .ms pre.length 0 rows.length :: post).getD i (.sc (.tuple #[]))) _
    rw [Array.getD_eq_getD_getElem?, Array.getElem?_append]
    by_cases hi : i < pre.length + post.length + 1
    · rw [if_pos (by omega)]
      simp only [List.getElem?_toArray, List.getD]
      by_cases hlt : i < pre.length
      · have e1 : pre[i]? = some pre[i] := List.getElem?_eq_getElem hlt
        have e2 : us[i]? = some (us[i]'(by omega)) := List.getElem?_eq_getElem (by omega)
        rw [List.getElem?_append_left hlt, List.getElem?_append_left (by omega), e1, e2]
        exact (hv1 i _ _ e1 e2).mono hx
      · rw [List.getElem?_append_right (by omega), List.getElem?_append_right (by omega), ← h1]
        obtain ⟨j, hj⟩ : ∃ j, i - pre.length = j := ⟨_, rfl⟩
        rw [hj]
        cases j with
        | zero => exact hms
        | succ j =>
          have e1 : post[j]? = some (post[j]'(by omega)) := List.getElem?_eq_getElem (by omega)
          have e2 : vs[j]? = some (vs[j]'(by omega)) := List.getElem?_eq_getElem (by omega)
          simp only [List.getElem?_cons_succ, e1, e2]
          exact (hv2 j _ _ e1 e2).mono hx
    · rw [if_neg (by omega)]
      have e1 : (pre ++ D.ms pre.length 0 rows.length :: post).getD i (.sc (.tuple #[])) = .sc (.tuple #[]) := by simp [List.getD, List.getElem?_eq_none (l := pre ++ D.ms pre.length 0 rows.length :: post) (i := i) (by simp; omega)]
      rw [e1]
      simp only [Array.getElem?_replicate]
      split <;> exact .sc undef
  · by_cases hs : t = pre.length
    · subst hs
      have ht : upd noOb pre.length _ pre.length = some ob := ht
      rw [upd_same] at ht
      cases ht
      refine ⟨by show 0 < bump noN _ _; rw [bump_same]; omega, b, c, cs, upd_same (fun _ => (none : Option (Nat × Nat × Nat))) pre.length (some (0, b, c)), .of hh rfl, fun _ => hsz, hc.1, hlen, fun j d hd => ?_⟩
      obtain ⟨u, k1, k2⟩ := hcells j d hd
      exact ⟨u, k1, (k2.mono (view_le fun k q => q.elim .inl fun q => .inr (by cases q; rfl))).mono hx⟩
    · have ht : upd noOb pre.length _ t = some ob := ht
      rw [upd_ne _ _ hs] at ht; cases ht
  · obtain ⟨_, _, rfl, _⟩ := hg _ _ _ _ k
    exact ⟨.inr rfl, hlt⟩
  · rw [(hg _ _ _ _ k).1, (hg _ _ _ _ k').1]
  · obtain ⟨_, _, rfl, _⟩ := hg _ _ _ _ q
    exact hb k
  · rcases q with q | q
    · have := hM b' k; have q : w.heap.size ≤ b' := q; omega
    · cases q; exact hb k
theorem SpL.of_vc {P : Program} {f : FuncId} {fn : Func} {c : Code} {pre post : List D} {e : TypeId} {sz : Nat} {rows rows' : List (List D)} {nt : Nat} (mu : List Nat) (rs : List ResultVar) (hf : P.funcs[f]? = some fn) (hb : fn.body = some c) (hn : (fn.name == "runtime.NumGoroutine") = false)
    (hnt : fn.ntmps = nt) (hrs : fn.results.toList = rs) (hle : pre.length + post.length + 1 ≤ nt) (hcl : ∀ d ∈ rows.flatten, Cl d) (hcl' : ∀ d ∈ rows'.flatten, Cl d)
    (h0 : rows = [] → vc P mu c (retL P rs e sz rows') (st0 (pre ++ .sc (.slice none 0 0) :: post) nt)) (h1 : vc P mu c (retL P rs e sz rows') (stL pre post e sz rows nt)) : SpL P f pre post e sz rows rows' := by
  subst hrs
  refine ⟨⟨fn, hf, hn, by rw [hb]; rfl⟩, hcl, hcl', fun w M us vs u x hM hxM hl1 hl2 hv1 hv2 ho => ?_⟩
  subst hnt
  have fin : ∀ (z : Bs), z.w = w → z.M = M → z.O = none → (∀ b, z.X b → x = some b) → ∀ (e' : Exit) (a : Act) (w' : World), LQ z (retL P fn.results.toList e sz rows') e' a w' → a.defers = [] ∧ (e' = .normal ∨ e' = .ret) ∧ ∃ v, (results fn a.tmps).run P w' = .ok v w' ∧ ∃ v' y, Ending.returned v = .returned v' ∧ (mkB w M fun b => x = some b).Ok w' ∧ OwnL w' M e sz rows' v' y ∧ ∀ b, y = some b → w.heap.size ≤ b ∨ x = some b := by
    rintro z rfl rfl hO hX e' a w' ⟨s', g', M', k1, k2⟩
    have hok : (mkB z.w z.M fun b => x = some b).Ok w' := ⟨k2.below.os, k2.below.tape, k2.below.output, k2.below.size, fun k hk => k2.below.block k fun q => hk (q.elim .inl fun q => .inr (hX k q))⟩
    have core : ∀ d, resD P s' fn.results.toList = some d → closeL e sz rows' s' d → a.defers = [] ∧ ∃ v, (results fn a.tmps).run P w' = .ok v w' ∧ ∃ v' y, Ending.returned v = .returned v' ∧ (mkB z.w z.M fun b => x = some b).Ok w' ∧ OwnL w' z.M e sz rows' v' y ∧ ∀ b, y = some b → z.w.heap.size ≤ b ∨ x = some b := by
      rintro d hd hc
      obtain ⟨v, v1, v2⟩ := resD_sound k2 hd
      refine ⟨k2.defers, v, v2, v, ?_⟩
      rcases hc with ⟨hn, rfl⟩ | ⟨t, ob, rfl, hob, rfl, rfl, ⟨rr, hcs⟩, hks⟩
      · cases v1; exact ⟨none, rfl, hok, ⟨hn, rfl⟩, by simp⟩
      · obtain ⟨_, b, c, us, hgt, hheap, hsz, hc, hlen, hcells⟩ := k2.obj t ob hob
        have hgt : g' t = some (ob.gen, b, c) := hgt
        cases v1 with | ms _ _ _ ad cap hg hx =>
        obtain ⟨rfl, rfl⟩ := hx b c hgt
        refine ⟨some b, rfl, hok, ⟨cap, us, rfl, hheap.cells hks, hsz hks, ⟨hc, hg.2⟩, ?_, fun j d hd => ?_⟩, fun b' hb' => ?_⟩
        · rw [hcs] at hlen; simp only [List.length_append] at hlen; omega
        · have hdm := List.mem_of_getElem? hd
          obtain ⟨u, u1, u2⟩ := hcells j d (by rw [hcs, List.getElem?_append_left (List.getElem?_eq_some_iff.1 hd).1]; exact hd)
          refine ⟨u, u1, u2.closed (fun b' o x k => ?_) (hcl' d hdm)⟩
          obtain ⟨k1, q2⟩ := view_free k
          refine view_mk (view_cell k) ?_ (by simp)
          rintro (q | rfl)
          · exact k1 ((k2.mm b').2 (.inl q))
          · exact q2 _ _ _ hgt
        · cases hb'
          exact (k2.base _ _ _ _ hgt).1.imp (fun q => q) fun q => hX _ q
    cases e'
    case normal => obtain ⟨d, hd, hz⟩ := k1; obtain ⟨q1, q2⟩ := core d hd hz; exact ⟨q1, .inl rfl, q2⟩
    case ret => obtain ⟨d, hd, hz⟩ := k1; obtain ⟨q1, q2⟩ := core d hd hz; exact ⟨q1, .inr rfl, q2⟩
    all_goals exact k1.elim
  cases x with
  | none =>
    obtain ⟨hr0, rfl⟩ := ho
    have hr := Rep.start (as := pre ++ .sc (.slice none 0 0) :: post) (vs := us ++ .slice none 0 0 :: vs) (nt := fn.ntmps) (Ts := []) none rfl hM (by simp; omega) (by simp; omega) (fun i d v hd hv' => by
      by_cases hi : i < pre.length
      · rw [List.getElem?_append_left hi] at hd
        rw [List.getElem?_append_left (by omega)] at hv'
        exact (hv1 i d v hd hv').mono (view_le fun b => by rintro (k | ⟨_, k, _⟩); exact .inl k; cases k)
      · rw [List.getElem?_append_right (by omega)] at hd hv'
        rw [← hl1] at hv'
        obtain ⟨j, hj⟩ : ∃ j, i - pre.length = j := ⟨_, rfl⟩
        rw [hj] at hd hv'
        cases j with
        | zero => simp at hd hv'; subst hd; subst hv'; exact .sc _
        | succ j => exact (hv2 j d v (by simpa using hd) (by simpa using hv')).mono (view_le fun b => by rintro (k | ⟨_, k, _⟩); exact .inl k; cases k)) (by simp) (by simp)
    refine calls_of_wp hf hb (wp_mono (vc_sound c _ hr (h0 hr0)) fun e' a w' hq => ?_)
    obtain ⟨q1, q2, q3⟩ := fin _ rfl rfl rfl (by simp) e' a w' hq
    rcases q2 with rfl | rfl <;> exact ⟨q1, q3⟩
  | some b =>
    obtain ⟨c', cs, rfl, hh, hsz, hc, hlen, hcells⟩ := ho
    have hr := Rep.startL (nt := fn.ntmps) hM (hxM b rfl) hl1 hl2 hle hv1 hv2 hh hsz hc hlen hcells
    refine calls_of_wp hf hb (wp_mono (vc_sound c _ hr h1) fun e' a w' hq => ?_)
    obtain ⟨q1, q2, q3⟩ := fin _ rfl rfl rfl (by simp) e' a w' hq
    rcases q2 with rfl | rfl <;> exact ⟨q1, q3⟩

/-- One walk for both. -/
theorem SpL.of_lst {P : Program} {f : FuncId} {fn : Func} {c : Code} {pre post : List D} {e : TypeId} {sz : Nat} {rows rows' : List (List D)} {nt : Nat} (mu : List Nat) (rs : List ResultVar) (hf : P.funcs[f]? = some fn) (hb : fn.body = some c) (hn : (fn.name == "runtime.NumGoroutine") = false)
    (hnt : fn.ntmps = nt) (hrs : fn.results.toList = rs) (hle : pre.length + post.length + 1 ≤ nt) (hcl : ∀ d ∈ rows.flatten, Cl d) (hcl' : ∀ d ∈ rows'.flatten, Cl d)
    (h : ∀ x H n, Lst [pre.length] H e sz rows x → vc P mu c (retL P rs e sz rows') { env := envOf (pre ++ x :: post), H := H, n := n, nt := nt }) : SpL P f pre post e sz rows rows' :=
  .of_vc mu rs hf hb hn hnt hrs hle hcl hcl' (fun h0 => h _ _ _ (.inl ⟨h0, rfl⟩)) (h _ _ _ (.inr ⟨pre.length, 0, by simp, rfl, upd_same _ _ _⟩))
/-- The list ends as an answer that nobody writes. -/
theorem Lst.fz {S : List Nat} {H : Nat → Option Ob} {e : TypeId} {sz : Nat} {rows : List (List D)} {x : D} (h : Lst S H e sz rows x) (hsz : 0 < sz) (hl : ∀ r ∈ rows, r.length = sz) (hcl : ∀ r ∈ rows, ∀ d ∈ r, Cl d) : Fz H x (.sl sz rows) := by
  rcases h with ⟨rfl, rfl⟩ | ⟨t, gn, -, rfl, hH⟩
  · exact .nil sz
  · exact Fz.rows hH rfl rfl hsz rfl hl rfl hcl
theorem Lst.close {S : List Nat} {s : St} {e : TypeId} {sz : Nat} {rows : List (List D)} {x : D} (h : Lst S s.H e sz rows x) : closeL e sz rows s x := by
  rcases h with ⟨rfl, rfl⟩ | ⟨t, gn, -, rfl, hH⟩
  · exact .inl ⟨rfl, rfl⟩
  · exact .inr ⟨t, _, rfl, hH, rfl, rfl, ⟨[], by simp⟩, rfl⟩
theorem Lst.nil {S : List Nat} {H : Nat → Option Ob} {e : TypeId} {sz : Nat} : Lst S H e sz [] (.sc (.slice none 0 0)) := .inl ⟨rfl, rfl⟩

/-! ### Objects that a call is given for good -/
def onL (L : List Nat) (H : Nat → Option Ob) : Nat → Option Ob := fun t => if t ∈ L then H t else none
def offL {α : Type} (L : List Nat) (H : Nat → Option α) : Nat → Option α := fun t => if t ∈ L then none else H t
section
variable {P : Program} {w0 : Bs} {M : Nat → Prop} {g : Nat → Option (Nat × Nat × Nat)} {s : St} {a : Act} {w : World}
theorem offL_some {L : List Nat} {t : Nat} {y : Nat × Nat × Nat} (h : offL L g t = some y) : t ∉ L ∧ g t = some y := by
  unfold offL at h
  split at h
  · cases h
  · rename_i k; exact ⟨k, h⟩
theorem Rep.offL (h : Rep w0 M g s a w) (L : List Nat) : Rep w0 M (Fw.offL L g) { s with H := Fw.offL L s.H } a w := by
  have hx : (view w M g s.n).Ext (view w M (Fw.offL L g) s.n) :=
    ⟨fun b o u e => view_mk (view_cell e) (view_free e).1 fun t x c k => (view_free e).2 _ _ _ (offL_some k).2, fun _ => Nat.le_refl _, fun _ _ _ _ _ e => (offL_some e).2⟩
  refine ⟨h.defers, h.size, fun i => (h.env i).mono hx, fun t ob ht => ?_, fun t x b c e => h.base _ _ _ _ (offL_some e).2, fun t t' x b c x' c' e e' => h.inj _ _ _ _ _ _ _ (offL_some e).2 (offL_some e').2, h.below,
    fun b k => ⟨(h.m0 b k).1, fun t x c e => (h.m0 b k).2 _ _ _ (offL_some e).2⟩, h.mm, h.zm, h.tree, h.nd, fun x e => ⟨(h.og x e).1, fun b c e' => (h.og x e).2 _ _ (offL_some e').2⟩⟩
  have ht' : Fw.offL L s.H t = some ob := ht
  unfold Fw.offL at ht'
  split at ht'
  · cases ht'
  · rename_i k
    refine (h.obj t ob ht').mono hx fun x b c e => ⟨?_, rfl⟩
    show Fw.offL L g t = _
    unfold Fw.offL
    rw [if_neg k]; exact e
theorem Rd.freezeL (hr : Rep w0 M g s a w) (L : List Nat) {d e : D} (hf : Fz (onL L s.H) d e) : ∀ {v : Value}, Rd (view w M g s.n) d v → Rd (view w (fun b => M b ∨ ∃ t x c, offL L g t = some (x, b, c)) (fun _ => none) noN) e v := by
  have hon : ∀ {t : Nat} {ob : Ob}, onL L s.H t = some ob → t ∈ L ∧ s.H t = some ob := fun {t ob} h => by
    unfold onL at h
    split at h
    · rename_i k; exact ⟨k, h⟩
    · cases h
  have hfree : ∀ {t x b c : Nat}, t ∈ L → g t = some (x, b, c) → ¬ (M b ∨ ∃ t x c, offL L g t = some (x, b, c)) := fun {t x b c} ht e => by
    rintro (k | ⟨t', x', c', k⟩)
    · exact (hr.m0 b k).2 _ _ _ e
    · obtain ⟨k1, k2⟩ := offL_some k
      have := hr.inj _ _ _ _ _ _ _ e k2
      subst this; exact k1 ht
  induction hf with
  | cl d h =>
    intro v hv
    refine hv.closed (fun b o u k => ?_) h
    obtain ⟨k1, k2⟩ := view_free k
    refine view_mk (view_cell k) ?_ (by simp)
    rintro (q | ⟨t, x, c, q⟩)
    · exact k1 q
    · exact k2 _ _ _ (offL_some q).2
  | nil sz => intro v hv; cases hv; exact .nil sz
  | ms t ob rows es hob hks hsz hl h1 h2 ih =>
    intro v hv
    obtain ⟨htL, hob⟩ := hon hob
    obtain ⟨hg, b, c, vs, hgt, hheap, hvs, hcm, hlen, hcells⟩ := hr.obj t ob hob
    have hgt : g t = some (ob.gen, b, c) := hgt
    have hheap := hheap.cells hks
    cases hv with | ms _ _ _ ad cap hg' hv =>
    obtain ⟨rfl, rfl⟩ := hv b c hgt
    have hcell : ∀ (i : Nat) (r : List D) (j : Nat) (d : D), rows[i]? = some r → r[j]? = some d → ∃ u, vs[i * ob.sz + j]? = some u ∧ Rd (view w M g s.n) (es i j) u := fun i r j d hi hj => hcells _ _ (h1 i r j d hi hj)
    refine .sl ob.sz rows b 0 cap (fun i j => vs.getD (i * ob.sz + j) undef) hg'.2 hcm hl (fun i r j d hi hj => ?_) (fun i r j d hi hj => ?_)
    · obtain ⟨u, hu, _⟩ := hcell i r j d hi hj
      refine view_mk ?_ (hfree htL hgt) (by simp)
      rw [Nat.zero_add, cell_of_block hheap]
      simp [Array.getD_eq_getD_getElem?, hu]
    · obtain ⟨u, hu, hR⟩ := hcell i r j d hi hj
      have := ih i r j d hi hj hR
      simpa [Array.getD_eq_getD_getElem?, hu] using this
  | rf t ob off es ds hob hks h1 h2 ih =>
    intro v hv
    obtain ⟨htL, hob⟩ := hon hob
    obtain ⟨hg, b, c, vs, hgt, hheap, hvs, hcm, hlen, hcells⟩ := hr.obj t ob hob
    have hgt : g t = some (ob.gen, b, c) := hgt
    have hheap := hheap.cells hks
    cases hv with | rf _ _ _ ad hg' hv =>
    have := hv b c hgt
    subst this
    refine .cp es b off (fun j => vs.getD (off + j) undef) (fun j e he => ?_) (fun j e he => ?_)
    · obtain ⟨u, hu, _⟩ := hcells _ _ (h1 j e he)
      refine view_mk ?_ (hfree htL hgt) (by simp)
      rw [cell_of_block hheap]
      simp [Array.getD_eq_getD_getElem?, hu]
    · obtain ⟨u, hu, hR⟩ := hcells _ _ (h1 j e he)
      have := ih j e he hR
      simpa [Array.getD_eq_getD_getElem?, hu] using this
  | fn f as bs cs ds hl hl' h h' ih ih' =>
    intro v hv
    cases hv with | fn _ _ _ us vs k1 k2 k3 k4 =>
    refine .fn f bs ds us vs (by omega) (by omega) (fun i e u he hu => ?_) (fun i e u he hu => ?_)
    · have hi : i < as.length := by have := (List.getElem?_eq_some_iff.1 he).1; omega
      exact ih i _ e (List.getElem?_eq_getElem hi) he (k3 i _ u (List.getElem?_eq_getElem hi) hu)
    · have hi : i < cs.length := by have := (List.getElem?_eq_some_iff.1 he).1; omega
      exact ih' i _ e (List.getElem?_eq_getElem hi) he (k4 i _ u (List.getElem?_eq_getElem hi) hu)
  | ag ds es hl h ih =>
    intro v hv
    cases hv with | ag _ vs k1 k2 =>
    refine .ag es vs (by omega) fun i e u he hu => ?_
    have hi : i < ds.length := by have := (List.getElem?_eq_some_iff.1 he).1; omega
    exact ih i _ e (List.getElem?_eq_getElem hi) he (k2 i _ u (List.getElem?_eq_getElem hi) hu)
  | tp ds es hl h ih =>
    intro v hv
    cases hv with | tp _ vs k1 k2 =>
    refine .tp es vs (by omega) fun i e u he hu => ?_
    have hi : i < ds.length := by have := (List.getElem?_eq_some_iff.1 he).1; omega
    exact ih i _ e (List.getElem?_eq_getElem hi) he (k2 i _ u (List.getElem?_eq_getElem hi) hu)
end
/-- A call that is given objects for good: nobody writes them any more. -/
theorem callK_give {P : Program} {s : St} {f : FuncId} {first caps args : List D} {dst : Option Nat} {K : St → Prop} (L : List Nat) (bs : List D) (r : D) (h : Sp P f bs r) (hl : bs.length = (first ++ args ++ caps).length)
    (hz : ∀ x ∈ (first ++ args ++ caps).zip bs, Fz (onL L s.H) x.1 x.2) (hcl : Cl r) (hK : K ({ s with H := offL L s.H }.put dst r)) : callK P s (.fn f first caps) args dst K := by
  refine .inr (.inr (.inr fun w0 M g a w env hr vs hvl hv => ⟨h.ok, ?_⟩))
  refine (h.run w (fun b => M b ∨ ∃ t x c, offL L g t = some (x, b, c)) vs ?_ (by omega) fun i e v he hv' => ?_).mono fun x w' ⟨v, hx, hb, hR⟩ => ⟨v, r, offL L s.H, s.n, s.T, offL L g, M, hx, (hr.offL L).grow hb, ?_, hK⟩
  · rintro b (k | ⟨t, x, c, k⟩)
    · exact (hr.m0 b k).1
    · exact (hr.base _ _ _ _ (offL_some k).2).2
  · have hi : i < (first ++ args ++ caps).length := by have := (List.getElem?_eq_some_iff.1 he).1; omega
    refine Rd.freezeL hr L (hz ((first ++ args ++ caps)[i], e) (List.mem_iff_getElem?.2 ⟨i, ?_⟩)) (hv i _ v (List.getElem?_eq_getElem hi) hv')
    rw [List.getElem?_zip_eq_some]
    exact ⟨List.getElem?_eq_getElem hi, he⟩
  · refine hR.closed (fun b o u k => ?_) hcl
    obtain ⟨k1, _⟩ := view_free k
    exact view_mk (view_cell k) (fun q => k1 (.inl q)) fun t x c q => k1 (.inr ⟨_, _, _, q⟩)
theorem retL_ret_eq {P : Program} {rs : List ResultVar} {e : TypeId} {sz : Nat} {rows : List (List D)} {s : St} : retL P rs e sz rows .ret s = resG (resD P s rs) (closeL e sz rows s) := by
  apply propext
  show (∃ d, resD P s rs = some d ∧ closeL e sz rows s d) ↔ _
  unfold resG
  cases resD P s rs <;> simp
theorem retL_normal_eq {P : Program} {rs : List ResultVar} {e : TypeId} {sz : Nat} {rows : List (List D)} {s : St} : retL P rs e sz rows .normal s = resG (resD P s rs) (closeL e sz rows s) := retL_ret_eq
end Go.Fw
