/-
  Calls that answer with a list that the caller may go on with; a slice without elements, told by cases. No condition.
-/
import Derived.Test.YtcidmkcicagpaaaGreatFw13
namespace Go.Fw
open Go.RowKit
structure SpF (P : Program) (f : FuncId) (as : List D) (e : TypeId) (sz : Nat) (rows : List (List D)) : Prop where
  ok : callable P f
  cl' : ∀ d ∈ rows.flatten, Cl d
  run : ∀ (w : World) (M : Nat → Prop) (vs : List Value), (∀ b, M b → b < w.heap.size) → as.length = vs.length →
    (∀ (i : Nat) (d : D) (v : Value), as[i]? = some d → vs[i]? = some v → Rd (view w M (fun _ => none) noN) d v) →
    Calls P f vs.toArray w fun z w' => ∃ v y, z = .returned v ∧ Below w.heap.size w w' ∧ OwnL w' M e sz rows v y ∧ ∀ b, y = some b → w.heap.size ≤ b
theorem callF_sound {P : Program} {s : St} {f : FuncId} {t : Nat} {args : List D} {e : TypeId} {sz : Nat} {rows : List (List D)} {K : St → Prop} (h : SpF P f args e sz rows)
    (hcl : ∀ d ∈ args, Cl d) (hK0 : rows = [] → K (s.put (some t) (.sc (.slice none 0 0))))
    (hK1 : K ((newOb s t e sz rows.flatten).put (some t) (.ms t (s.n t) rows.length))) : callX P s f args (some t) K := by
  intro w0 M g a w env hr vs hl hv
  refine ⟨h.ok, ?_⟩
  have hrd : ∀ {d : D} {v : Value}, Cl d → Rd (view w M g s.n) d v → Rd (view w (fun b => M b ∨ ∃ t x c, g t = some (x, b, c)) (fun _ => none) noN) d v := fun hd k => k.closed (fun b o u q => by
    obtain ⟨q1, q2⟩ := view_free q
    refine view_mk (view_cell q) ?_ (by simp)
    rintro (k | ⟨t, x, c, k⟩)
    · exact q1 k
    · exact q2 _ _ _ k) hd
  refine (h.run w (fun b => M b ∨ ∃ t x c, g t = some (x, b, c)) vs (fun b k => ?_) hl (fun i d v q1 q2 => hrd (hcl d (List.mem_of_getElem? q1)) (hv i d v q1 q2))).mono ?_
  · rcases k with k | ⟨t, x, c, k⟩
    · exact (hr.m0 b k).1
    · exact (hr.base _ _ _ _ k).2
  rintro z w' ⟨v, y, rfl, hb, ho, hy⟩
  refine ⟨v, ?_⟩
  cases y with
  | none =>
    obtain ⟨hn, rfl⟩ := ho
    exact ⟨_, s.H, s.n, s.T, g, M, rfl, hr.grow hb, .sc _, hK0 hn⟩
  | some b =>
    obtain ⟨c, us', rfl, hheap, hsz, hc, hlen, hcells⟩ := ho
    have hge : w.heap.size ≤ b := hy b rfl
    have hr' := hr.rebind_at (w' := w') t t b c us' { gen := s.n t, elem := e, sz, cells := rows.flatten } rfl (fun k hk _ => hb.block k hk) (.inl hge) (lt_of_heap hheap) (.of hheap rfl) (fun _ => hsz) hc.1 hlen
      (fun j d hd => by
        obtain ⟨u, h1, h2⟩ := hcells j d hd
        refine ⟨u, h1, h2.mono ⟨fun b' o u e => ?_, fun _ => Nat.zero_le _, fun s x b c hx e => absurd hx (Nat.not_lt_zero _)⟩⟩
        obtain ⟨k1, _⟩ := view_free e
        refine view_mk (view_cell e) (fun k => k1 (.inl (.inl k))) fun t' x c' k => ?_
        by_cases ht : t' = t
        · subst ht; rw [upd_same] at k; cases k; exact k1 (.inr rfl)
        · rw [upd_ne _ _ ht, upd_ne _ _ ht] at k; exact k1 (.inl (.inr ⟨_, _, _, k⟩))) hb.os hb.tape hb.output hb.size
    exact ⟨_, _, _, s.T, _, M, rfl, hr', ms_rd (by show s.n t < bump s.n t t; rw [bump_same]; omega) hc.2 (upd_same _ _ _), hK1⟩
/-- A call that answers with such a list. -/
theorem callK_fresh {P : Program} {s : St} {f : FuncId} {first caps args : List D} {t : Nat} {K : St → Prop} (e : TypeId) (sz : Nat) (rows : List (List D)) (h : SpF P f (first ++ args ++ caps) e sz rows)
    (hcl : ∀ d ∈ first ++ args ++ caps, Cl d) (hK : ∀ H n x', Lst [t] H e sz rows x' → (∀ t', t' ≠ t → H t' = s.H t') → K ({ s with H := H, n := n }.put (some t) x')) : callK P s (.fn f first caps) args (some t) K :=
  .inr (.inr (.inr (callF_sound h hcl (fun h0 => hK s.H s.n _ (.inl ⟨h0, rfl⟩) fun _ _ => rfl) (hK _ _ _ (.inr ⟨t, s.n t, by simp, rfl, by simp [upd_same]⟩) fun t' h1 => by show upd (upd s.H t none) t _ t' = _; rw [upd_ne _ _ h1, upd_ne _ _ h1]))))
theorem SpF.of_vc {P : Program} {f : FuncId} {fn : Func} {c : Code} {as : List D} {e : TypeId} {sz : Nat} {rows : List (List D)} {nt : Nat} (mu : List Nat) (rs : List ResultVar) (hf : P.funcs[f]? = some fn) (hb : fn.body = some c) (hn : (fn.name == "runtime.NumGoroutine") = false)
    (hnt : fn.ntmps = nt) (hrs : fn.results.toList = rs) (hle : as.length ≤ nt) (hcl' : ∀ d ∈ rows.flatten, Cl d) (h : vc P mu c (retL P rs e sz rows) (st0 as nt)) : SpF P f as e sz rows := by
  subst hrs
  refine ⟨⟨fn, hf, hn, by rw [hb]; rfl⟩, hcl', fun w M vs hM hl hv => ?_⟩
  subst hnt
  have hr := Rep.start (Ts := []) none rfl hM hl hle (fun i d v hd hv' => (hv i d v hd hv').mono (view_le fun b => by rintro (k | ⟨_, k, _⟩); exact k; cases k)) (by simp) (by simp)
  refine calls_of_wp hf hb (wp_mono (vc_sound c _ hr h) fun e' a w' ⟨s', g', M', k1, k2⟩ => ?_)
  have core : ∀ d, resD P s' fn.results.toList = some d → closeL e sz rows s' d → a.defers = [] ∧ ∃ v, (results fn a.tmps).run P w' = .ok v w' ∧ ∃ v' y, Ending.returned v = .returned v' ∧ Below w.heap.size w w' ∧ OwnL w' M e sz rows v' y ∧ ∀ b, y = some b → w.heap.size ≤ b := by
    rintro d hd hc
    obtain ⟨v, v1, v2⟩ := resD_sound k2 hd
    refine ⟨k2.defers, v, v2, v, ?_⟩
    rcases hc with ⟨hn, rfl⟩ | ⟨t, ob, rfl, hob, rfl, rfl, ⟨rr, hcs⟩, hks⟩
    · cases v1; exact ⟨none, rfl, bs_below k2.below (by simp), ⟨hn, rfl⟩, by simp⟩
    · obtain ⟨_, b, c, us, hgt, hheap, hsz, hc, hlen, hcells⟩ := k2.obj t ob hob
      have hgt : g' t = some (ob.gen, b, c) := hgt
      cases v1 with | ms _ _ _ ad cap hg hx =>
      obtain ⟨rfl, rfl⟩ := hx b c hgt
      refine ⟨some b, rfl, bs_below k2.below (by simp), ⟨cap, us, rfl, hheap.cells hks, hsz hks, ⟨hc, hg.2⟩, ?_, fun j d hd => ?_⟩, fun b' hb' => ?_⟩
      · rw [hcs] at hlen; simp only [List.length_append] at hlen; omega
      · have hdm := List.mem_of_getElem? hd
        obtain ⟨u, u1, u2⟩ := hcells j d (by rw [hcs, List.getElem?_append_left (List.getElem?_eq_some_iff.1 hd).1]; exact hd)
        refine ⟨u, u1, u2.closed (fun b' o x k => ?_) (hcl' d hdm)⟩
        obtain ⟨k1, q2⟩ := view_free k
        refine view_mk (view_cell k) ?_ (by simp)
        rintro (q | rfl)
        · exact k1 ((k2.mm b').2 (.inl q))
        · exact q2 _ _ _ hgt
      · cases hb'
        rcases (k2.base _ _ _ _ hgt).1 with k | ⟨_, k, _⟩
        · exact k
        · cases k
  cases e'
  case normal => obtain ⟨d, hd, hz⟩ := k1; exact core d hd hz
  case ret => obtain ⟨d, hd, hz⟩ := k1; exact core d hd hz
  all_goals exact k1.elim

/-- A slice without elements is nil, or it is not. -/
theorem GK.empty {K : St → Prop} {s : St} (i sz : Nat) (h : s.env i = .sl sz []) (h0 : K { s with env := setE s.env i (.sc (.slice none 0 0)) }) (h1 : ∀ a c, K { s with env := setE s.env i (.sc (.slice (some a) 0 c)) }) : GK K s := by
  intro w0 M g a w hr
  have hi := hr.env i
  rw [h] at hi
  generalize hv : a.tmps.getD i undef = v at hi
  have key : ∀ u, v = u → K { s with env := setE s.env i (.sc u) } → ∃ s' g' M', K s' ∧ Rep w0 M' g' s' a w := fun u hu hK => by
    refine ⟨_, g, M, hK, hr.defers, hr.size, fun j => ?_, hr.obj, hr.base, hr.inj, hr.below, hr.m0, hr.mm, hr.zm, hr.tree, hr.nd, hr.og⟩
    show Rd _ (if j = i then _ else _) _
    by_cases hj : j = i
    · subst hj; rw [if_pos rfl, hv, hu]; exact .sc _
    · rw [if_neg hj]; exact hr.env j
  generalize hd : D.sl sz [] = d at hi
  cases hi <;> cases hd
  · exact key _ rfl h0
  · exact key _ rfl (h1 _ _)
  · exact key _ rfl (h1 _ _)

/-! ### Calls that write a list in its place -/
/-- A contract with a list (the first argument) whose cells the call writes. -/
structure SpW (P : Program) (f : FuncId) (post : List D) (e : TypeId) (sz : Nat) (rows rows' : List (List D)) (r : D) : Prop where
  ok : callable P f
  len : rows'.length = rows.length
  cl : ∀ d ∈ rows.flatten, Cl d
  cl' : ∀ d ∈ rows'.flatten, Cl d
  det : (detD r).isSome = true
  run : ∀ (w : World) (M : Nat → Prop) (vs : List Value) (u : Value) (x : Option Nat), (∀ b, M b → b < w.heap.size) → (∀ b, x = some b → ¬ M b) → post.length = vs.length →
    (∀ (i : Nat) (d : D) (v : Value), post[i]? = some d → vs[i]? = some v → Rd (view w (fun b => M b ∨ x = some b) (fun _ => none) noN) d v) →
    OwnL w M e sz rows u x →
    Calls P f (u :: vs).toArray w fun z w' => ∃ v, z = .returned v ∧ (mkB w M fun b => x = some b).Ok w' ∧ OwnL w' M e sz rows' u x ∧ ∀ V, Rd V r v
theorem callW_sound {P : Program} {s : St} {f : FuncId} {dst : Option Nat} {post : List D} {x : D} {e : TypeId} {sz : Nat} {rows rows' : List (List D)} {r : D} {K : St → Prop} {S : List Nat} (h : SpW P f post e sz rows rows' r) (hx : Lst S s.H e sz rows x)
    (hcl : ∀ d ∈ post, Cl d) (hK : ∀ H, Lst S H e sz rows' x → (∀ t, t ∉ S → H t = s.H t) → K ({ s with H := H }.put dst r)) : callX P s f (x :: post) dst K := by
  intro w0 M g a w env hr vs hl hv
  obtain ⟨us, u, ws, rfl, h1, h2, h3, h4, h5⟩ := split_vals (pre := []) hl hv
  obtain rfl : us = [] := by cases us with | nil => rfl | cons => simp at h1
  refine ⟨h.ok, ?_⟩
  rcases hx with ⟨rfl, rfl⟩ | ⟨t0, gn, hS, rfl, hob⟩
  · cases h3
    have hrd : ∀ {d : D} {v : Value}, Cl d → Rd (view w M g s.n) d v → Rd (view w (fun b => (M b ∨ ∃ t x c, g t = some (x, b, c)) ∨ (none : Option Nat) = some b) (fun _ => none) noN) d v := fun hd k => k.closed (fun b o u q => by
      obtain ⟨q1, q2⟩ := view_free q
      refine view_mk (view_cell q) ?_ (by simp)
      rintro ((k | ⟨t, x, c, k⟩) | k)
      · exact q1 k
      · exact q2 _ _ _ k
      · cases k) hd
    refine (h.run w (fun b => M b ∨ ∃ t x c, g t = some (x, b, c)) ws _ none (fun b k => ?_) (by simp) h2 (fun i d v q1 q2 => hrd (hcl d (List.mem_of_getElem? q1)) (h5 i d v q1 q2)) ⟨rfl, rfl⟩).mono ?_
    · rcases k with k | ⟨t, x, c, k⟩
      · exact (hr.m0 b k).1
      · exact (hr.base _ _ _ _ k).2
    rintro z w' ⟨v, rfl, hok, ho, hv⟩
    have hb : Below w.heap.size w w' := bs_below hok (by simp)
    refine ⟨v, r, s.H, s.n, s.T, g, M, rfl, hr.grow hb, hv _, hK s.H (.inl ⟨?_, rfl⟩) fun _ _ => rfl⟩
    have := h.len; simpa using this
  · obtain ⟨q0, b0, c0, vs0, hgt, hheap0, hsz0, hc0, hlen0, hcells0⟩ := hr.obj t0 _ hob
    have hgt : g t0 = some (gn, b0, c0) := hgt
    have hheap0 := hheap0.cells rfl
    cases h3 with | ms _ _ _ ad cap hgl hx =>
    obtain ⟨rfl, rfl⟩ := hx b0 c0 hgt
    have hM0 : ¬ M b0 := fun k => (hr.m0 b0 k).2 _ _ _ hgt
    have hrd : ∀ {d : D} {v : Value}, Cl d → Rd (view w M g s.n) d v → Rd (view w (fun b => (M b ∨ ∃ t x c, g t = some (x, b, c) ∧ b ≠ b0) ∨ some b0 = some b) (fun _ => none) noN) d v := fun hd k => k.closed (fun b o u q => by
      obtain ⟨q1, q2⟩ := view_free q
      refine view_mk (view_cell q) ?_ (by simp)
      rintro ((k | ⟨t, x, c, k, _⟩) | k)
      · exact q1 k
      · exact q2 _ _ _ k
      · cases k; exact q2 _ _ _ hgt) hd
    refine (h.run w (fun b => M b ∨ ∃ t x c, g t = some (x, b, c) ∧ b ≠ b0) ws _ (some b0) (fun b k => ?_) ?_ h2 (fun i d v q1 q2 => hrd (hcl d (List.mem_of_getElem? q1)) (h5 i d v q1 q2)) ⟨cap, vs0, rfl, hheap0, hsz0 rfl, ⟨hc0, hgl.2⟩, hlen0, fun j d hj => ?_⟩).mono ?_
    · rcases k with k | ⟨t, x, c, k, _⟩
      · exact (hr.m0 b k).1
      · exact (hr.base _ _ _ _ k).2
    · rintro b hb (k | ⟨t, x, c, k, hne⟩)
      · cases hb; exact hM0 k
      · cases hb; exact hne rfl
    · obtain ⟨u, k1, k2⟩ := hcells0 j d hj
      have := hrd (h.cl d (List.mem_of_getElem? hj)) k2
      exact ⟨u, k1, this.mono (view_le fun b k => k.elim .inl fun k => .inr (by rw [k]))⟩
    rintro z w' ⟨v, rfl, hok, ⟨c, us', hu, hheap, hsz, hc, hlen, hcells⟩, hv⟩
    obtain rfl : cap = c := by injection hu
    have hsame : ∀ k, k < w.heap.size → k ≠ b0 → w'.heap[k]? = w.heap[k]? := fun k hk hne => hok.block k fun q => by
      rcases q with q | q
      · exact absurd q (by simp only; omega)
      · cases q; exact hne rfl
    have hg0 := (hr.base _ _ _ _ hgt)
    have hx' : (view w M g s.n).Ext (view w' M g s.n) := view_ext (b' := b0) (fun _ => Nat.le_refl _) (fun k hk hne => hsame k hk hne) (.inr ⟨_, _, _, hgt⟩) (fun _ _ _ _ e => .inl e)
    have hr' : Rep w0 M g { s with env := env, H := upd s.H t0 (some { gen := gn, elem := e, sz, cells := rows'.flatten }) } a w' := by
      refine ⟨hr.defers, hr.size, fun i => (hr.env i).mono hx', fun t' ob' ht' => ?_, fun t' x b c e => ⟨(hr.base _ _ _ _ e).1, Nat.lt_of_lt_of_le (hr.base _ _ _ _ e).2 hok.size⟩, hr.inj, hr.below.step hok.os hok.tape hok.output hok.size fun k hk => hsame k (Nat.lt_of_lt_of_le (Bs.not_own hk) hr.below.size) fun q => hk (q ▸ hg0.1),
        fun b k => ⟨Nat.lt_of_lt_of_le (hr.m0 b k).1 hok.size, (hr.m0 b k).2⟩, hr.mm, hr.zm, tree_keep (s := { s with env := env }) hr fun b k => hsame b (hr.m0 b k).1 fun q => hM0 (q ▸ k), hr.nd, hr.og⟩
      by_cases hs : t' = t0
      · subst hs
        have ht' : upd s.H t' _ t' = some ob' := ht'
        rw [upd_same] at ht'
        cases ht'
        refine ⟨q0, b0, cap, us', hgt, .of hheap rfl, fun _ => hsz, hc.1, hlen, fun j d hd => ?_⟩
        obtain ⟨u, k1, k2⟩ := hcells j d hd
        refine ⟨u, k1, k2.mono ⟨fun b' o u e => ?_, fun _ => Nat.zero_le _, fun s x b c hx e => absurd hx (Nat.not_lt_zero _)⟩⟩
        obtain ⟨z1, _⟩ := view_free e
        refine view_mk (view_cell e) (fun k => z1 (.inl (.inl k))) fun t' x c' k => ?_
        by_cases hb : b' = b0
        · exact z1 (.inr hb)
        · exact z1 (.inl (.inr ⟨_, _, _, k, hb⟩))
      · have ht' : upd s.H t0 _ t' = some ob' := ht'
        rw [upd_ne _ _ hs] at ht'
        refine (hr.obj t' ob' ht').mono hx' fun x b c e => ⟨e, hsame b (hr.base _ _ _ _ e).2 fun q => ?_⟩
        subst q
        exact hs (hr.inj _ _ _ _ _ _ _ e hgt)
    refine ⟨v, r, _, s.n, s.T, g, M, rfl, hr', hv _, hK _ (.inr ⟨t0, gn, hS, by rw [h.len], upd_same _ _ _⟩) fun t ht => upd_ne _ _ fun q => ht (q ▸ hS)⟩
theorem callK_write {P : Program} {s : St} {f : FuncId} {first caps args : List D} {dst : Option Nat} {K : St → Prop} (S : List Nat) (post : List D) (x : D) (e : TypeId) (sz : Nat) (rows rows' : List (List D)) (r : D) (h : SpW P f post e sz rows rows' r)
    (ha : first ++ args ++ caps = x :: post) (hx : Lst S s.H e sz rows x) (hcl : ∀ d ∈ post, Cl d)
    (hK : ∀ H, Lst S H e sz rows' x → (∀ t, t ∉ S → H t = s.H t) → K ({ s with H := H }.put dst r)) : callK P s (.fn f first caps) args dst K := by
  refine .inr (.inr (.inr ?_))
  rw [ha]
  exact callW_sound h hx hcl hK
def closeW (e : TypeId) (sz : Nat) (rows : List (List D)) (s : St) : Prop := ∃ ob, s.H 0 = some ob ∧ ob.gen = 0 ∧ ob.elem = e ∧ ob.sz = sz ∧ ob.cells = rows.flatten ∧ ob.keys = none
def retW (P : Program) (rs : List ResultVar) (e : TypeId) (sz : Nat) (rows : List (List D)) (r : D) (nil : Bool) : Exit → St → Prop
  | .normal, s => resD P s rs = some r ∧ (nil = true ∨ closeW e sz rows s)
  | .ret, s => resD P s rs = some r ∧ (nil = true ∨ closeW e sz rows s)
  | _, _ => False
theorem SpW.of_vc {P : Program} {f : FuncId} {fn : Func} {c : Code} {post : List D} {e : TypeId} {sz : Nat} {rows rows' : List (List D)} {r : D} {nt : Nat} (mu : List Nat) (rs : List ResultVar) (hf : P.funcs[f]? = some fn) (hb : fn.body = some c) (hn : (fn.name == "runtime.NumGoroutine") = false)
    (hnt : fn.ntmps = nt) (hrs : fn.results.toList = rs) (hle : post.length + 1 ≤ nt) (hlen : rows'.length = rows.length) (hcl : ∀ d ∈ rows.flatten, Cl d) (hcl' : ∀ d ∈ rows'.flatten, Cl d) (hdet : (detD r).isSome = true)
    (h0 : rows = [] → vc P mu c (retW P rs e sz rows' r true) (st0 (.sc (.slice none 0 0) :: post) nt)) (h1 : vc P mu c (retW P rs e sz rows' r false) (stL [] post e sz rows nt)) : SpW P f post e sz rows rows' r := by
  subst hrs
  refine ⟨⟨fn, hf, hn, by rw [hb]; rfl⟩, hlen, hcl, hcl', hdet, fun w M vs u x hM hxM hl hv ho => ?_⟩
  subst hnt
  cases x with
  | none =>
    obtain ⟨hr0, rfl⟩ := ho
    have hr0' : rows' = [] := by subst hr0; simpa using hlen
    have hr := Rep.start (as := .sc (.slice none 0 0) :: post) (vs := .slice none 0 0 :: vs) (nt := fn.ntmps) (Ts := []) none rfl hM (by simp; omega) (by simp; omega) (fun i d v hd hv' => by
      cases i with
      | zero => simp at hd hv'; subst hd; subst hv'; exact .sc _
      | succ j => exact (hv j d v (by simpa using hd) (by simpa using hv')).mono (view_le fun b => by rintro (k | ⟨_, k, _⟩); exact .inl k; cases k)) (by simp) (by simp)
    refine calls_of_wp hf hb (wp_mono (vc_sound c _ hr (h0 hr0)) fun e' a w' ⟨s', g', M', k1, k2⟩ => ?_)
    have core : resD P s' fn.results.toList = some r → a.defers = [] ∧ ∃ v, (results fn a.tmps).run P w' = .ok v w' ∧ ∃ v', Ending.returned v = .returned v' ∧ (mkB w M fun b => (none : Option Nat) = some b).Ok w' ∧ OwnL w' M e sz rows' (.slice none 0 0) none ∧ ∀ V, Rd V r v' := fun hd => by
      obtain ⟨v, v1, v2⟩ := resD_sound k2 hd
      exact ⟨k2.defers, v, v2, v, rfl, ⟨k2.below.os, k2.below.tape, k2.below.output, k2.below.size, fun k hk => k2.below.block k fun q => hk (q.elim .inl fun ⟨_, q, _⟩ => by cases q)⟩, ⟨hr0', rfl⟩, fun V => det_any hdet v1⟩
    cases e'
    case normal => exact core k1.1
    case ret => exact core k1.1
    all_goals exact k1.elim
  | some b =>
    obtain ⟨cp, cs, rfl, hh, hsz, hc, hlen', hcells⟩ := ho
    have hr0 := Rep.startL (pre := []) (us := []) (nt := fn.ntmps) hM (hxM b rfl) rfl hl (by simpa using hle) (by simp) hv hh hsz hc hlen' hcells
    have hr : Rep ⟨w, M, fun k => some b = some k, some (b, cp)⟩ M (upd (fun _ => none) 0 (some (0, b, cp))) (stL [] post e sz rows fn.ntmps) _ w :=
      ⟨hr0.defers, hr0.size, hr0.env, hr0.obj, hr0.base, hr0.inj, ⟨hr0.below.os, hr0.below.tape, hr0.below.output, hr0.below.size, hr0.below.block⟩, hr0.m0, hr0.mm, hr0.zm, hr0.tree, hr0.nd, fun x k => by
        cases k
        refine ⟨by show 1 ≤ bump noN 0 0; rw [bump_same]; omega, fun b' c' k => ?_⟩
        rw [upd_same] at k; cases k; rfl⟩
    refine calls_of_wp hf hb (wp_mono (vc_sound c _ hr h1) fun e' a w' ⟨s', g', M', k1, k2⟩ => ?_)
    have core : resD P s' fn.results.toList = some r → closeW e sz rows' s' → a.defers = [] ∧ ∃ v, (results fn a.tmps).run P w' = .ok v w' ∧ ∃ v', Ending.returned v = .returned v' ∧ (mkB w M fun k => some b = some k).Ok w' ∧ OwnL w' M e sz rows' (.slice (some ⟨b, 0, none⟩) rows.length cp) (some b) ∧ ∀ V, Rd V r v' := by
      rintro hd ⟨ob, q1, q2, rfl, rfl, q5, q6⟩
      obtain ⟨v, v1, v2⟩ := resD_sound k2 hd
      obtain ⟨_, b', c', us, hgt, hheap, hsz', hc', hlen'', hcells'⟩ := k2.obj 0 ob q1
      have hgt : g' 0 = some (ob.gen, b', c') := hgt
      rw [q2] at hgt
      have hbc := (k2.og _ rfl).2 b' c' hgt
      cases hbc
      refine ⟨k2.defers, v, v2, v, rfl, ⟨k2.below.os, k2.below.tape, k2.below.output, k2.below.size, fun k hk => k2.below.block k hk⟩, ⟨cp, us, by rw [hlen], hheap.cells q6, hsz' q6, ⟨hc', by rw [hlen]; exact hc.2⟩, by rw [← q5]; exact hlen'', fun j d hd => ?_⟩, fun V => det_any hdet v1⟩
      have hdm := List.mem_of_getElem? hd
      rw [← q5] at hd
      obtain ⟨u, u1, u2⟩ := hcells' j d hd
      refine ⟨u, u1, u2.closed (fun b' o x k => ?_) (hcl' d hdm)⟩
      obtain ⟨z1, z2⟩ := view_free k
      refine view_mk (view_cell k) ?_ (by simp)
      rintro (q | rfl)
      · exact z1 ((k2.mm b').2 (.inl q))
      · exact z2 _ _ _ hgt
    cases e'
    case normal => exact core k1.1 (k1.2.resolve_left (by simp))
    case ret => exact core k1.1 (k1.2.resolve_left (by simp))
    all_goals exact k1.elim
theorem resD_nil {P : Program} {s : St} : resD P s [] = some (.tp []) := Eq.trans rfl rfl
theorem retW_ret {P : Program} {rs : List ResultVar} {e : TypeId} {sz : Nat} {rows : List (List D)} {r : D} {nil : Bool} {s : St} : retW P rs e sz rows r nil .ret s = (resD P s rs = some r ∧ (nil = true ∨ closeW e sz rows s)) := Eq.trans rfl rfl
theorem retW_normal {P : Program} {rs : List ResultVar} {e : TypeId} {sz : Nat} {rows : List (List D)} {r : D} {nil : Bool} {s : St} : retW P rs e sz rows r nil .normal s = (resD P s rs = some r ∧ (nil = true ∨ closeW e sz rows s)) := Eq.trans rfl rfl
end Go.Fw
