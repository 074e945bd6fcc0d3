/-
  The walk over data: a statement's weakest condition over values without memory, its soundness, and a function's contract out of it. No condition.
-/
import Derived.Test.YtcidmkcicagpaaaGreatFw2
set_option linter.unusedSimpArgs false
set_option linter.unusedVariables false
namespace Go.Fw
open Go.RowKit

/-! ### Trees among data: results that share no memory, trees that a call writes -/
inductive TL (R : D → Value → List Nat → Prop) : List D → List Value → List Nat → Prop
  | nil : TL R [] [] []
  | cons {d : D} {v : Value} {F : List Nat} {ds : List D} {vs : List Value} {F' : List Nat} (h : R d v F) (t : TL R ds vs F') : TL R (d :: ds) (v :: vs) (F ++ F')
inductive T2 (w : World) : D → Value → List Nat → Prop
  | one {d : D} {v : Value} {F : List Nat} (h : T1 w d v F) : T2 w d v F
  | ag {ds : List D} {vs : List Value} {F : List Nat} (h : TL (T1 w) ds vs F) : T2 w (.ag ds) (.agg vs.toArray) F
inductive T3 (w : World) : D → Value → List Nat → Prop
  | one {d : D} {v : Value} {F : List Nat} (h : T2 w d v F) : T3 w d v F
  | tp {ds : List D} {vs : List Value} {F : List Nat} (h : TL (T2 w) ds vs F) : T3 w (.tp ds) (.tuple vs.toArray) F
/-- Data, and the same with its slices as values of trees. -/
inductive OL (R : D → D → List TE → Prop) : List D → List D → List TE → Prop
  | nil : OL R [] [] []
  | cons {d e : D} {T : List TE} {ds es : List D} {T' : List TE} (h : R d e T) (t : OL R ds es T') : OL R (d :: ds) (e :: es) (T ++ T')
inductive O1 : D → D → List TE → Prop
  | sc (v : Value) : O1 (.sc v) (.sc v) []
  | sl (sz : Nat) (rows : List (List D)) (a : Option Addr) (n c : Nat) (F : List Nat) : O1 (.sl sz rows) (.sc (.slice a n c)) [⟨.slice a n c, .sl sz rows, F⟩]
inductive O2 : D → D → List TE → Prop
  | one {d e : D} {T : List TE} (h : O1 d e T) : O2 d e T
  | ag {ds es : List D} {T : List TE} (h : OL O1 ds es T) : O2 (.ag ds) (.ag es) T
inductive O3 : D → D → List TE → Prop
  | one {d e : D} {T : List TE} (h : O2 d e T) : O3 d e T
  | tp {ds es : List D} {T : List TE} (h : OL O2 ds es T) : O3 (.tp ds) (.tp es) T

abbrev bl (T : List TE) : List Nat := T.flatMap (·.F)
theorem bl_app (T U : List TE) : bl (T ++ U) = bl T ++ bl U := List.flatMap_append
theorem mem_bl {T : List TE} {b : Nat} : b ∈ bl T ↔ ∃ e ∈ T, b ∈ e.F := List.mem_flatMap
theorem tl_map {R R' : D → Value → List Nat → Prop} (h : ∀ d v F, R d v F → R' d v F) {ds : List D} {vs : List Value} {F : List Nat} (k : TL R ds vs F) : TL R' ds vs F := by
  induction k with
  | nil => exact .nil
  | cons h' _ ih => exact .cons (h _ _ _ h') ih
theorem tl_len {R : D → Value → List Nat → Prop} {ds : List D} {vs : List Value} {F : List Nat} (k : TL R ds vs F) : ds.length = vs.length := by
  induction k with
  | nil => rfl
  | cons _ _ ih => simp [ih]
theorem tl_get {R : D → Value → List Nat → Prop} {ds : List D} {vs : List Value} {F : List Nat} (k : TL R ds vs F) : ∀ (i : Nat) (d : D) (v : Value), ds[i]? = some d → vs[i]? = some v → ∃ F', R d v F' ∧ ∀ b ∈ F', b ∈ F := by
  induction k with
  | nil => intro i d v h; simp at h
  | cons h _ ih =>
    intro i d v hd hv
    cases i with
    | zero => simp at hd hv; subst hd; subst hv; exact ⟨_, h, fun b hb => List.mem_append_left _ hb⟩
    | succ i =>
      obtain ⟨F', h1, h2⟩ := ih i d v (by simpa using hd) (by simpa using hv)
      exact ⟨F', h1, fun b hb => List.mem_append_right _ (h2 b hb)⟩
/-- the trees of a value, each by itself -/
theorem T1.opn {w : World} {d : D} {v : Value} {F : List Nat} (h : T1 w d v F) : ∃ T, O1 d (.sc v) T ∧ (∀ te ∈ T, T1 w te.d te.u te.F) ∧ bl T = F := by
  cases h with
  | sc v => exact ⟨[], .sc v, by simp, rfl⟩
  | nil sz => exact ⟨_, .sl sz [] _ _ _ [], fun te hte => by simp at hte; subst hte; exact .nil sz, rfl⟩
  | emp sz a cap hm => exact ⟨_, .sl sz [] _ _ _ [], fun te hte => by simp at hte; subst hte; exact .emp sz a cap hm, rfl⟩
  | sl sz rows b cap vs e us Fs hb hc hm hsz h0 hl hu h => exact ⟨_, .sl sz rows _ _ _ _, fun te hte => by simp at hte; subst hte; exact .sl sz rows b cap vs e us Fs hb hc hm hsz h0 hl hu h, by simp⟩
theorem tl_opn {w : World} {R : D → Value → List Nat → Prop} {Q : D → D → List TE → Prop} (hR : ∀ d v F, R d v F → ∃ e T, Q d e T ∧ (∀ V, Rd V e v) ∧ (∀ te ∈ T, T1 w te.d te.u te.F) ∧ bl T = F) {ds : List D} {vs : List Value} {F : List Nat} (h : TL R ds vs F) :
    ∃ es T, OL Q ds es T ∧ es.length = vs.length ∧ (∀ V (i : Nat) (d : D) (v : Value), es[i]? = some d → vs[i]? = some v → Rd V d v) ∧ (∀ te ∈ T, T1 w te.d te.u te.F) ∧ bl T = F := by
  induction h with
  | nil => exact ⟨[], [], .nil, rfl, by simp, by simp, rfl⟩
  | cons h _ ih =>
    obtain ⟨e, T, h1, h2, h3, h4⟩ := hR _ _ _ h
    obtain ⟨es, T', k1, k2, k3, k4, k5⟩ := ih
    refine ⟨e :: es, T ++ T', .cons h1 k1, by simp [k2], fun V i d v hd hv => ?_, fun te hte => ?_, by rw [bl_app, h4, k5]⟩
    · cases i with
      | zero => simp at hd hv; subst hd; subst hv; exact h2 V
      | succ i => exact k3 V i d v (by simpa using hd) (by simpa using hv)
    · rcases List.mem_append.1 hte with h | h
      · exact h3 te h
      · exact k4 te h
theorem T2.opn {w : World} {d : D} {v : Value} {F : List Nat} (h : T2 w d v F) : ∃ e T, O2 d e T ∧ (∀ V, Rd V e v) ∧ (∀ te ∈ T, T1 w te.d te.u te.F) ∧ bl T = F := by
  cases h with
  | one h =>
    obtain ⟨T, h1, h2, h3⟩ := h.opn
    exact ⟨_, T, .one h1, fun V => .sc v, h2, h3⟩
  | ag h =>
    obtain ⟨es, T, h1, h2, h3, h4, h5⟩ := tl_opn (w := w) (Q := O1) (fun d v F h => let ⟨T, h1, h2, h3⟩ := T1.opn h; ⟨_, T, h1, fun V => .sc v, h2, h3⟩) h
    exact ⟨_, T, .ag h1, fun V => .ag _ _ h2 (h3 V), h4, h5⟩
theorem T3.opn {w : World} {d : D} {v : Value} {F : List Nat} (h : T3 w d v F) : ∃ e T, O3 d e T ∧ (∀ V, Rd V e v) ∧ (∀ te ∈ T, T1 w te.d te.u te.F) ∧ bl T = F := by
  cases h with
  | one h =>
    obtain ⟨e, T, h1, h2⟩ := h.opn
    exact ⟨e, T, .one h1, h2⟩
  | tp h =>
    obtain ⟨es, T, h1, h2, h3, h4, h5⟩ := tl_opn (w := w) (Q := O2) (fun d v F h => T2.opn h) h
    exact ⟨_, T, .tp h1, fun V => .tp _ _ h2 (h3 V), h4, h5⟩
theorem T2.rd {w : World} {M : Nat → Prop} {g : Nat → Option (Nat × Nat × Nat)} {n : Nat → Nat} {d : D} {v : Value} {F : List Nat} (h : T2 w d v F) (hF : ∀ b ∈ F, ¬ M b ∧ ∀ s x c, g s ≠ some (x, b, c)) : Rd (view w M g n) d v := by
  cases h with
  | one h => exact h.rd hF
  | ag h =>
    exact .ag _ _ (tl_len h) fun i d v hd hv => by
      obtain ⟨F', h1, h2⟩ := tl_get h i d v hd hv
      exact h1.rd fun b hb => hF b (h2 b hb)
theorem T3.rd {w : World} {M : Nat → Prop} {g : Nat → Option (Nat × Nat × Nat)} {n : Nat → Nat} {d : D} {v : Value} {F : List Nat} (h : T3 w d v F) (hF : ∀ b ∈ F, ¬ M b ∧ ∀ s x c, g s ≠ some (x, b, c)) : Rd (view w M g n) d v := by
  cases h with
  | one h => exact h.rd hF
  | tp h =>
    exact .tp _ _ (tl_len h) fun i d v hd hv => by
      obtain ⟨F', h1, h2⟩ := tl_get h i d v hd hv
      exact h1.rd fun b hb => hF b (h2 b hb)

/-- the same trees, with other data -/
def upT : List TE → List D → List TE
  | te :: T, d :: ds => { te with d } :: upT T ds
  | _, _ => []
theorem upT_bl : ∀ (T : List TE) (ds : List D), ds.length = T.length → bl (upT T ds) = bl T
  | [], [], _ => rfl
  | te :: T, d :: ds, h => by
    have := upT_bl T ds (by simpa using h)
    simp only [bl, upT, List.flatMap_cons] at *
    rw [this]
  | [], _ :: _, h => by simp at h
  | _ :: _, [], h => by simp at h

abbrev mkB (w : World) (M X : Nat → Prop) : Bs := ⟨w, M, X, none⟩
/-- A contract with trees: the call may write the trees that it is given (and nothing else that was there); its answer shares no memory. -/
structure SpG (P : Program) (f : FuncId) (as : List D) (Ts : List TE) (ds : List D) (r : D) : Prop where
  ok : callable P f
  len : ds.length = Ts.length
  run : ∀ (w : World) (M : Nat → Prop) (vs : List Value), (∀ b, M b → b < w.heap.size) → as.length = vs.length →
    (∀ (i : Nat) (d : D) (v : Value), as[i]? = some d → vs[i]? = some v → Rd (view w (fun b => M b ∨ ∃ e ∈ Ts, b ∈ e.F) (fun _ => none) noN) d v) →
    (∀ e ∈ Ts, T1 w e.d e.u e.F ∧ ∀ b ∈ e.F, ¬ M b) → (bl Ts).Nodup →
    Calls P f vs.toArray w fun e w' => ∃ v, e = .returned v ∧ (mkB w M fun b => ∃ e ∈ Ts, b ∈ e.F).Ok w' ∧ (∀ e ∈ upT Ts ds, T1 w' e.d e.u e.F) ∧ ∃ F, T3 w' r v F ∧ F.Nodup ∧ ∀ b ∈ F, w.heap.size ≤ b

theorem bs_below {w w' : World} {M X : Nat → Prop} (h : (mkB w M X).Ok w') (hX : ∀ b, ¬ X b) : Below w.heap.size w w' :=
  ⟨h.os, h.tape, h.output, h.size, fun k hk => h.block k fun e => by rcases e with e | e; exact absurd e (by simp only; omega); exact hX k e⟩
theorem below_bs {w w' : World} {M X : Nat → Prop} (h : Below w.heap.size w w') : (mkB w M X).Ok w' :=
  ⟨h.os, h.tape, h.output, h.size, fun k hk => h.block k (Bs.not_own hk)⟩
theorem view_le {w : World} {M M' : Nat → Prop} (h : ∀ b, M' b → M b) : (view w M (fun _ => none) noN).Ext (view w M' (fun _ => none) noN) :=
  ⟨fun b o u e => view_mk (view_cell e) (fun k => (view_free e).1 (h b k)) (by simp), fun _ => Nat.le_refl _, fun _ _ _ _ k _ => absurd k (Nat.not_lt_zero _)⟩
/-- An answer that shares no memory is an answer. -/
theorem SpG.sp {P : Program} {f : FuncId} {as : List D} {r : D} (h : SpG P f as [] [] r) : Sp P f as r :=
  ⟨h.ok, fun w M vs hM hl hv => (h.run w M vs hM hl (fun i d v hd hv' => (hv i d v hd hv').mono (view_le fun b => by rintro (k | ⟨_, k, _⟩); exact k; cases k)) (by simp) (by simp)).mono
    fun e w' ⟨v, he, hb, _, F, hF, _, hge⟩ => ⟨v, he, bs_below hb (by simp), hF.rd fun b hb => ⟨fun k => by have := hM b k; have := hge b hb; omega, by simp⟩⟩⟩
theorem det_t3 {V : View} {w : World} {r : D} {v : Value} (h : (detD r).isSome = true) (k : Rd V r v) : T3 w r v [] := by
  have key : ∀ (ds : List D) (us vs : List Value), ds.mapM scV = some us → ds.length = vs.length → (∀ (i : Nat) (d : D) (v : Value), ds[i]? = some d → vs[i]? = some v → Rd V d v) → TL (T2 w) ds vs [] := by
    intro ds
    induction ds with
    | nil => intro us vs _ hl _; cases vs with | nil => exact .nil | cons => simp at hl
    | cons d ds ih =>
      intro us vs h hl hv
      cases vs with
      | nil => simp at hl
      | cons v vs =>
        rw [List.mapM_cons] at h
        simp only [Option.bind_eq_bind, Option.bind_eq_some_iff, Option.pure_def, Option.some.injEq] at h
        obtain ⟨u, hu, us', hus, rfl⟩ := h
        have h0 := hv 0 d v (by simp) (by simp)
        cases d <;> simp [scV] at hu
        subst hu
        cases h0
        exact .cons (F := []) (.one (.sc _)) (ih us' vs hus (by simpa using hl) fun i d v h1 h2 => hv (i + 1) d v (by simpa using h1) (by simpa using h2))
  cases k <;> simp [detD] at h
  · exact .one (.one (.sc _))
  · rename_i ds vs hl hv
    obtain ⟨us, hus⟩ := Option.isSome_iff_exists.1 h
    exact .tp (key ds us vs hus hl hv)
/-- An answer that holds no memory shares none. -/
theorem Sp.g {P : Program} {f : FuncId} {as : List D} {r : D} (h : Sp P f as r) (hd : (detD r).isSome = true) : SpG P f as [] [] r :=
  ⟨h.ok, rfl, fun w M vs hM hl hv _ _ => (h.run w M vs hM hl (fun i d v hd hv' => (hv i d v hd hv').mono (view_le fun b k => .inl k))).mono
    fun e w' ⟨v, he, hb, hR⟩ => ⟨v, he, below_bs hb, by simp [upT], [], det_t3 hd hR, by simp, by simp⟩⟩

/-- An argument that names trees or objects of the call's own, as it reads while nobody writes them. -/
inductive Fb (H : Nat → Option Ob) (T : List TE) : D → D → Prop
  | fz {d e : D} (h : Fz H d e) : Fb H T d e
  | tr (te : TE) (h : te ∈ T) : Fb H T (.sc te.u) te.d
  | ag (ds es : List D) (hl : ds.length = es.length) (h : ∀ (i : Nat) (d e : D), ds[i]? = some d → es[i]? = some e → Fb H T d e) : Fb H T (.ag ds) (.ag es)

/-! ### Calls -/
/-- A call over data: the arguments as they are, or as they read while nobody writes them (where the answer holds no memory). -/
def CallOk (P : Program) (H : Nat → Option Ob) (T : List TE) (f : FuncId) (as : List D) (r : D) : Prop :=
  (Sp P f as r ∧ ∀ (i : Nat) (d : D), as[i]? = some d → Cl d) ∨
  ∃ bs : List D, bs.length = as.length ∧ (∀ (i : Nat) (d e : D), as[i]? = some d → bs[i]? = some e → Fb H T d e) ∧ Sp P f bs r ∧ (detD r).isSome = true
/-- A call that is given trees, or that answers with trees. -/
def callG (P : Program) (s : St) (g : FuncId) (args : List D) (dst : Option Nat) (K : St → Prop) : Prop :=
  ∃ (as : List D) (Ts rest : List TE) (ds : List D) (r : D), s.T.Perm (Ts ++ rest) ∧ as.length = args.length ∧ (∀ (i : Nat) (d e : D), args[i]? = some d → as[i]? = some e → Fb s.H rest d e) ∧
    SpG P g as Ts ds r ∧ ∀ (e : D) (T' : List TE), O3 r e T' → ∃ Tn : List TE, Tn.Perm (upT Ts ds ++ rest ++ T') ∧ K ({ s with T := Tn }.put dst e)
/-- A call that answers with a new object, whose cells may name memory that nobody writes. -/
structure SpO (P : Program) (f : FuncId) (as : List D) (e : TypeId) (sz : Nat) (rows : List (List D)) : Prop where
  ok : callable P f
  run : ∀ (w : World) (M : Nat → Prop) (vs : List Value), (∀ b, M b → b < w.heap.size) → as.length = vs.length →
    (∀ (i : Nat) (d : D) (v : Value), as[i]? = some d → vs[i]? = some v → Rd (view w M (fun _ => none) noN) d v) →
    Calls P f vs.toArray w fun x w' => ∃ (b c : Nat) (us : Array Value), x = .returned (.slice (some ⟨b, 0, none⟩) rows.length c) ∧ Below w.heap.size w w' ∧ w.heap.size ≤ b ∧ w'.heap[b]? = some (.cells us e (0, 0)) ∧ us.size = c * sz ∧ (c ≤ maxLen ∧ rows.length ≤ c) ∧
      rows.flatten.length ≤ us.size ∧ ∀ (j : Nat) (d : D), rows.flatten[j]? = some d → ∃ u, us[j]? = some u ∧ Rd (view w' (fun k => M k ∨ k = b) (fun _ => none) noN) d u
def callO (P : Program) (s : St) (g : FuncId) (args : List D) (dst : Option Nat) (K : St → Prop) : Prop :=
  ∃ (t : Nat) (e : TypeId) (sz : Nat) (rows : List (List D)), dst = some t ∧ SpO P g args e sz rows ∧ (∀ (i : Nat) (d : D), args[i]? = some d → Cl d) ∧ K ((newOb s t e sz rows.flatten).put (some t) (.ms t (s.n t) rows.length))
/-- A call, by what it does to the machine's states: the caller's temporaries are none of its business. -/
def callX (P : Program) (s : St) (f : FuncId) (args : List D) (dst : Option Nat) (K : St → Prop) : Prop :=
  ∀ (w0 : Bs) (M : Nat → Prop) (g : Nat → Option (Nat × Nat × Nat)) (a : Act) (w : World) (env : Nat → D), Rep w0 M g { s with env := env } a w → ∀ vs : List Value, args.length = vs.length →
    (∀ (i : Nat) (d : D) (v : Value), args[i]? = some d → vs[i]? = some v → Rd (view w M g s.n) d v) →
    callable P f ∧ Calls P f vs.toArray w fun e w' => ∃ (v : Value) (d : D) (H : Nat → Option Ob) (n : Nat → Nat) (T : List TE) (g' : Nat → Option (Nat × Nat × Nat)) (M' : Nat → Prop), e = .returned v ∧
      Rep w0 M' g' { s with env := env, H := H, n := n, T := T } a w' ∧ Rd (view w' M' g' n) d v ∧ K ({ s with H := H, n := n, T := T }.put dst d)
def callK (P : Program) (s : St) (f : D) (args : List D) (dst : Option Nat) (K : St → Prop) : Prop :=
  match f with
  | .fn g first caps => (∃ r, CallOk P s.H s.T g (first ++ args ++ caps) r ∧ K (s.put dst r)) ∨ callG P s g (first ++ args ++ caps) dst K ∨ callO P s g (first ++ args ++ caps) dst K ∨ callX P s g (first ++ args ++ caps) dst K
  | _ => False
/-- A call in a region that draws its order. -/
def callQ (P : Program) (s : St) (f : D) (args : List D) (dst : Option Nat) (K : St → Prop) : Prop :=
  match f with
  | .fn g first caps => ∃ r, CallOk P s.H s.T g (first ++ args ++ caps) r ∧ K (s.put dst r)
  | _ => False

def putK (s : St) (dst : Option Nat) (K : St → Prop) : Option D → Prop
  | some d => K (s.put dst d)
  | none => False
def memK (dst : Nat) (K : St → Prop) : Option (Prop × St × D) → Prop
  | some (p, s1, d) => p ∧ K (s1.put (some dst) d)
  | none => False
def stoK (dst : Option Nat) (K : St → Prop) : Option (Prop × St) → Prop
  | some (p, s1) => p ∧ K (s1.put dst (.sc (.tuple #[])))
  | none => False

def vcOp (P : Program) (mu : List Nat) (op : Op) (dst : Option Nat) (K : St → Prop) (s : St) : Prop :=
  match op with
  | .call c => match c.callee with
    | .value f => callK P s (s.ev f) (c.args.toList.map s.ev) dst K
    | .builtin .append => match dst with | some t => memK t K (stepMem P mu s t (.call c)) | none => False
    | _ => putK s dst K (stepP P s (.call c))
  | .store ty x y => stoK dst K (stepStore P s (.store ty x y))
  | .mapUpdate ty m k v => stoK dst K (stepStore P s (.mapUpdate ty m k v))
  | .box e x => match dst with | some t => memK t K (stepMem P mu s t (.box e x)) | none => False
  | .alloc e => match dst with | some t => memK t K (stepMem P mu s t (.alloc e)) | none => False
  | .makeMap e r => match dst with | some t => memK t K (stepMem P mu s t (.makeMap e r)) | none => False
  | .buildSlice ty l ps => match dst with | some t => memK t K (stepMem P mu s t (.buildSlice ty l ps)) | none => False
  | .makeSlice ty l c => match dst with | some t => memK t K (stepMem P mu s t (.makeSlice ty l c)) | none => False
  | op => putK s dst K (stepP P s op)
def vcOpQ (P : Program) (op : Op) (dst : Option Nat) (K : St → Prop) (s : St) : Prop :=
  match op with
  | .call c => match c.callee with
    | .value f => callQ P s (s.ev f) (c.args.toList.map s.ev) dst K
    | _ => putK s dst K (stepP P s (.call c))
  | op => putK s dst K (stepP P s op)

/-- where a guard looks -/
def guardD (ds : List (Option Nat)) (s : St) (j : Nat) : D := match ds[j]? with | some (some t) => if t < s.nt then s.env t else .any | _ => .any
def dsts (l : List Oper) : List (Option Nat) := l.map (·.dst)
def guardK (d : D) (want : Bool) (run skip : St → Prop) (s : St) : Prop :=
  match d with
  | .sc (.bool b) => if b = want then run s else skip s
  | .sc (.tuple _) => skip s
  | _ => False
def skipK (dst : Option Nat) (K : St → Prop) (s : St) : Prop := K (s.put dst (.sc (.tuple #[])))
/-- The same machine's states, told in other words. -/
def GK (K : St → Prop) (s : St) : Prop := ∀ (w0 : Bs) (M : Nat → Prop) (g : Nat → Option (Nat × Nat × Nat)) (a : Act) (w : World), Rep w0 M g s a w → ∃ s' g' M', K s' ∧ Rep w0 M' g' s' a w
theorem GK.intro {K : St → Prop} {s : St} (h : K s) : GK K s := fun _ _ _ _ _ hr => ⟨_, _, _, h, hr⟩
theorem GK.mono {K K' : St → Prop} (hK : ∀ s, K s → K' s) {s : St} (h : GK K s) : GK K' s := fun w0 M g a w hr => let ⟨s', g', M', h1, h2⟩ := h w0 M g a w hr; ⟨s', g', M', hK _ h1, h2⟩
theorem GK.join {K : St → Prop} {s : St} (h : GK (GK K) s) : GK K s := fun w0 M g a w hr => let ⟨_, _, _, h1, h2⟩ := h w0 M g a w hr; h1 _ _ _ _ _ h2
theorem Rep.perm {w0 : Bs} {M : Nat → Prop} {g : Nat → Option (Nat × Nat × Nat)} {s : St} {a : Act} {w : World} (h : Rep w0 M g s a w) {T : List TE} (hp : T.Perm s.T) : Rep w0 M g { s with T := T } a w :=
  ⟨h.defers, h.size, h.env, h.obj, h.base, h.inj, h.below, h.m0, fun b => (h.mm b).trans (or_congr Iff.rfl ⟨fun ⟨e, he, hb⟩ => ⟨e, hp.mem_iff.2 he, hb⟩, fun ⟨e, he, hb⟩ => ⟨e, hp.mem_iff.1 he, hb⟩⟩), h.zm, fun e he => h.tree e (hp.mem_iff.1 he), (hp.flatMap_right _).symm.nodup h.nd, h.og⟩
theorem GK.perm {K : St → Prop} {s : St} {T : List TE} (hp : s.T.Perm T) (h : GK K { s with T := T }) : GK K s := fun w0 M g a w hr => h w0 M g a w (hr.perm hp.symm)
/-- marked: ahead of this operation the state may be told in other words -/
def gh : List Nat → Option Nat → Bool
  | [], _ => false
  | _ :: _, none => false
  | x :: l, some t => x == t + 1000000 || gh l (some t)
def ghK (b : Bool) (X : St → Prop) (s : St) : Prop := match b with | true => GK X s | false => X s
def vcOps (P : Program) (mu : List Nat) (ops : List (Option Nat)) : List Oper → (St → Prop) → St → Prop
  | [], K, s => K s
  | o :: rest, K, s =>
    match o.guard with
    | none => ghK (gh mu o.dst) (vcOp P mu o.op o.dst (vcOps P mu ops rest K)) s
    | some (j, want) => guardK (guardD ops s j) want (vcOp P mu o.op o.dst (vcOps P mu ops rest K)) (skipK o.dst (vcOps P mu ops rest K)) s
def vcOpsQ (P : Program) (ops : List (Option Nat)) : List Oper → (St → Prop) → St → Prop
  | [], K, s => K s
  | o :: rest, K, s =>
    match o.guard with
    | none => vcOpQ P o.op o.dst (vcOpsQ P ops rest K) s
    | some (j, want) => guardK (guardD ops s j) want (vcOpQ P o.op o.dst (vcOpsQ P ops rest K)) (skipK o.dst (vcOpsQ P ops rest K)) s

def thenQ (next : St → Prop) (Q : Exit → St → Prop) : Exit → St → Prop
  | .normal, s => next s
  | e, s => Q e s
def blockQ (id : Nat) (Q : Exit → St → Prop) : Exit → St → Prop
  | .exit id', s => if id' = id then Q .normal s else Q (.exit id') s
  | e, s => Q e s
def condK (d : D) (X Y : St → Prop) (s : St) : Prop :=
  match d with
  | .sc (.bool b) => (b = true → X s) ∧ (b = false → Y s)
  | _ => False
/-- A region that draws its order, by what it does to the machine's states. -/
def drawX (P : Program) (ops : Array Oper) (K : St → Prop) (s : St) : Prop :=
  P.follows .mixedOrders = true ∧ ∀ (w0 : Bs) (M : Nat → Prop) (g : Nat → Option (Nat × Nat × Nat)) (a : Act) (w : World) (Q : Exit → Act → World → Prop), (∀ a w, (∃ s g M, K s ∧ Rep w0 M g s a w) → Q .normal a w) → Rep w0 M g s a w →
    wpAny P .any ops Q ops.size (Array.replicate ops.size false) a w
def drawK (P : Program) (ops : Array Oper) (p : Prop) (K : St → Prop) (s : St) : Prop := (P.follows .mixedOrders = true ∧ Region.lexB .any ops = true ∧ p) ∨ drawX P ops K s
/-! #### Drawn regions that make or write memory -/
def isM : Op → Bool
  | .buildSlice .. | .box .. | .alloc .. | .store .. => true
  | .call c => (match c.callee with | .builtin .append => true | _ => false)
  | _ => false
def memL : List Oper → Bool
  | [] => false
  | o :: l => isM o.op || memL l
/-- what such a region says ahead of its walk: the slots that it makes; the loads that read what nobody writes -/
structure Nw where
  nw : List Nat
  cp : List Nat
def isCp : D → Prop
  | .cp _ => True
  | _ => False
def cpO (L : List Nat) (dst : Option Nat) (d : D) : Prop := match dst with | some t => t ∈ L → isCp d | none => True
def inO (L : List Nat) (dst : Option Nat) : Bool := match dst with | some t => L.contains t | none => false
/-- a slot that the region makes is touched by its own name alone -/
def okT (nw : List Nat) (x : Operand) : D → Prop
  | .rf sl _ _ => sl ∉ nw ∨ x = .tmp sl
  | .ms sl _ _ => sl ∉ nw ∨ x = .tmp sl
  | _ => True
def okA (nw : List Nat) (s : St) : List Operand → Prop
  | [] => True
  | x :: l => okT nw x (s.ev x) ∧ okA nw s l
def memC : Option (Prop × St × D) → Option (Prop × (Nat → Option Ob) × (Nat → Nat) × D)
  | some (p, s1, d) => some (p, s1.H, s1.n, d)
  | none => none
def appC (q : Prop) : Option (Prop × St × D) → Option (Prop × (Nat → Option Ob) × (Nat → Nat) × D)
  | some (p, s1, d) => some (p ∧ q, s1.H, s1.n, d)
  | none => none
/-- what an operation without a call comes to: a condition, the objects, their count, what it yields -/
def detC (P : Program) (mu : List Nat) (nw : Nw) (op : Op) (dst : Option Nat) (s : St) : Option (Prop × (Nat → Option Ob) × (Nat → Nat) × D) :=
  match op with
  | .load t x => (stepP P s (.load t x)).map fun d => (okT nw.nw x (s.ev x) ∧ cpO nw.cp dst (s.ev x), s.H, s.n, d)
  | .buildSlice ty l ps => match dst with | some t => memC (stepMem P mu s t (.buildSlice ty l ps)) | none => none
  | .alloc ty => match dst with | some t => memC (stepMem P mu s t (.alloc ty)) | none => none
  | .store ty x y => (stepStore P s (.store ty x y)).map fun q => (q.1 ∧ okT nw.nw x (s.ev x), q.2.H, q.2.n, .sc (.tuple #[]))
  | .lookup .. | .convert .. | .box .. | .makeMap .. | .makeSlice .. | .mapUpdate .. => none
  | .call c => match c.callee with
    | .builtin .append => match dst with | some t => appC (okA nw.nw s c.args.toList) (stepMem P mu s t (.call c)) | none => none
    | .value _ => none
    | _ => (stepP P s (.call c)).map fun d => (True, s.H, s.n, d)
  | op => (stepP P s op).map fun d => (True, s.H, s.n, d)
def detK (s : St) (dst : Option Nat) (K : St → Prop) : Option (Prop × (Nat → Option Ob) × (Nat → Nat) × D) → Prop
  | some (p, H, n, d) => p ∧ K ({ s with H := H, n := n }.put dst d)
  | none => False
/-- A call in such a region: what it answers is said ahead of the region's walk. -/
def callM (P : Program) (R : Nat → Bool × D) (s : St) (f : D) (args : List D) (dst : Option Nat) (K : St → Prop) : Prop :=
  match f, dst with
  | .fn g first caps, some t => (∀ (i : Nat) (d : D), (first ++ args ++ caps)[i]? = some d → Cl d) ∧
      if (R t).1 then SpG P g (first ++ args ++ caps) [] [] (R t).2 ∧ (∃ e T, O3 (R t).2 e T) ∧ ∀ (e : D) (T : List TE), O3 (R t).2 e T → K ({ s with T := s.T ++ T }.put dst e)
      else Sp P g (first ++ args ++ caps) (R t).2 ∧ K (s.put dst (R t).2)
  | _, _ => False
def vcOpM (P : Program) (R : Nat → Bool × D) (mu : List Nat) (nw : Nw) (op : Op) (dst : Option Nat) (K : St → Prop) (s : St) : Prop :=
  match op with
  | .call c => match c.callee with
    | .value f => callM P R s (s.ev f) (c.args.toList.map s.ev) dst K
    | _ => detK s dst K (detC P mu nw (.call c) dst s)
  | op => detK s dst K (detC P mu nw op dst s)
def vcOpsM (P : Program) (R : Nat → Bool × D) (mu : List Nat) (nw : Nw) : List Oper → (St → Prop) → St → Prop
  | [], K, s => K s
  | o :: rest, K, s => vcOpM P R mu nw o.op o.dst (vcOpsM P R mu nw rest K) s
def newsL : List Oper → List Nat
  | [] => []
  | o :: l => (match o.op, o.dst with | .buildSlice .., some t => [t] | .alloc .., some t => [t] | _, _ => []) ++ newsL l
def clsM : Op → Nat
  | .load .. => 1
  | .buildSlice .. => 3
  | .alloc .. => 3
  | .store .. => 4
  | .lookup .. | .convert .. | .box .. | .makeMap .. | .makeSlice .. | .mapUpdate .. => 5
  | .call c => match c.callee with | .value _ => 2 | .builtin .append => 4 | _ => 0
  | _ => 0
def compatM (a b : Nat) : Bool := (a == 0 && decide (b ≤ 4)) || (b == 0 && decide (a ≤ 4)) || (a == 1 && (b == 1 || b == 3)) || (a == 3 && b == 1) || (a == 2 && (b == 1 || b == 3 || b == 4)) || (b == 2 && (a == 1 || a == 3 || a == 4)) || (a == 3 && (b == 3 || b == 4)) || (b == 3 && a == 4) || (a == 2 && b == 2)
def compatO (L : List Nat) (a b : Oper) : Bool := compatM (clsM a.op) (clsM b.op) || (clsM a.op == 1 && clsM b.op == 4 && inO L a.dst) || (clsM a.op == 4 && clsM b.op == 1 && inO L b.dst)
/-- one waits for another, be it through others -/
def depM (md : Region.Mode) (ops : Array Oper) : Nat → Nat → Nat → Bool
  | 0, _, _ => false
  | f + 1, j, i => match ops[j]? with
    | some oj => oj.after.any fun e => Region.binds md e && (e.on == i || depM md ops f e.on i)
    | none => false
def lexM (L : List Nat) (md : Region.Mode) (ops : Array Oper) : Nat → Nat → Array Bool → Bool
  | 0, _, listed => (Region.ready md ops listed).isEmpty
  | fuel + 1, k, listed => (Region.ready md ops listed).contains k && ((List.range ops.size).all fun j => match ops[k]?, ops[j]? with
      | some oi, some oj => listed.getD j true || j == k || depM md ops ops.size j k || (oi.apart ops oj && compatO L oi oj)
      | _, _ => false) && lexM L md ops fuel (k + 1) (listed.setIfInBounds k true)
def memB (L : List Nat) (ops : Array Oper) : Bool := lexM L .any ops ops.size 0 (Array.replicate ops.size false) && ops.all fun o => o.guard.isNone
def drawM (P : Program) (mu : List Nat) (ops : Array Oper) (K : St → Prop) (s : St) : Prop :=
  (P.follows .mixedOrders = true ∧ ∃ R L, memB L ops = true ∧ vcOpsM P R mu ⟨newsL ops.toList, L⟩ ops.toList K s) ∨ drawX P ops K s
def iterK (F : (St → Prop) → St → Prop) : Nat → St → Prop
  | 0 => fun _ => False
  | n + 1 => F (iterK F n)
def loopK (F : (St → Prop) → St → Prop) (s : St) : Prop := ∃ n, iterK F n s

def loopQ (F : (Exit → St → Prop) → St → Prop) (Q : Exit → St → Prop) (s : St) : Prop := loopK (fun I => F (thenQ (GK I) Q)) s

def vc (P : Program) (mu : List Nat) : Code → (Exit → St → Prop) → St → Prop
  | .skip, Q, s => Q .normal s
  | .region _ ops draw, Q, s => if draw then (if memL ops.toList then drawM P mu ops (Q .normal) s else drawK P ops (vcOpsQ P (dsts ops.toList) ops.toList (Q .normal) s) (Q .normal) s) else vcOps P mu (dsts ops.toList) ops.toList (Q .normal) s
  | .seq a b, Q, s => vc P mu a (thenQ (vc P mu b Q) Q) s
  | .cond c x y, Q, s => condK (s.ev c) (vc P mu x Q) (vc P mu y Q) s
  | .block id c, Q, s => vc P mu c (blockQ id Q) s
  | .loop c, Q, s => loopQ (vc P mu c) Q s
  | .exit id, Q, s => Q (.exit id) s
  | .ret, Q, s => Q .ret s
  | _, _, _ => False

/-! ### Soundness -/
section
variable {P : Program} {w0 : Bs} {M : Nat → Prop} {g : Nat → Option (Nat × Nat × Nat)} {s : St} {a : Act} {w : World}

theorem stepStore_sound (hr : Rep w0 M g s a w) {o : Oper} {p : Prop} {s1 : St} (h : stepStore P s o.op = some (p, s1)) (hp : p) :
    ∃ w', (execOp a.eval o).run P w = .ok .skip w' ∧ Rep w0 M g s1 a w' := by
  unfold stepStore at h
  split at h
  · rename_i ty x y ho
    split at h
    · rename_i t gn off cs n hx hcs hn
      split at h
      · rename_i ob hob
        split at h
        · rename_i hgen
          obtain ⟨hgen, hks⟩ := hgen
          cases h
          obtain ⟨p1, p2, p3⟩ := hp
          have hxv := hr.ev x; rw [hx] at hxv
          generalize hxe : a.eval x = vx at hxv
          cases hxv with | rf _ _ _ ad hg hxv =>
          obtain ⟨hg', b, c, vs, hgt, hheap, hvs, hcm, hlen, hcells⟩ := hr.obj t ob hob
          have hvs := hvs hks
          have hheap := hheap.cells hks
          have := hxv b c (by rw [← hgen]; exact hgt)
          subst this
          obtain ⟨k1, k2⟩ := cells_rd hcs (hr.ev y)
          have hone : ∀ v ∈ (a.eval y).cells.toList, v.oneCell' = true := by
            intro v hv
            obtain ⟨j, hj, rfl⟩ := List.getElem_of_mem hv
            have hjc : j < cs.length := by simpa [k1] using hj
            obtain ⟨u, q1, q2⟩ := k2 j _ (List.getElem?_eq_getElem hjc)
            have : u = (a.eval y).cells.toList[j] := by
              have h1 : (a.eval y).cells.toList[j]? = some u := by simpa using q1
              rw [List.getElem?_eq_getElem hj] at h1; exact (Option.some.inj h1).symm
            rw [← this]
            exact one_rd (List.all_eq_true.1 p3 _ (List.getElem_mem hjc)) q2
          have hfit : off + 0 + (a.eval y).cells.toList.length ≤ vs.size := by simp; omega
          have hst := run_storeCells_at P b off ob.elem (a.eval y).cells.toList 0 vs w hheap hfit hone
          simp only [Nat.add_zero] at hst hfit
          have hsize : (vs.toList.take off ++ (a.eval y).cells.toList ++ vs.toList.drop (off + (a.eval y).cells.toList.length)).toArray.size = vs.size := by simp at hfit ⊢; omega
          have htk : (vs.toList.take off).length = off := by simp at hfit ⊢; omega
          refine ⟨w.setRow b (vs.toList.take off ++ (a.eval y).cells.toList ++ vs.toList.drop (off + (a.eval y).cells.toList.length)).toArray, ?_, ?_⟩
          · have hne : ¬ (a.eval y).cells.size ≠ n := by omega
            simp only [execOp, ho, hxe, Instr.storeAt, Instr.sureAddr, storeVar, Sem.run_bind, Sem.run_pure, Result.andThen_ok, szOf_some hn]
            rw [if_neg hne, hst]
            rfl
          · refine (hr.write t b c _ ob { ob with cells := setR ob.cells off cs } hob hgt rfl (fun k hk => setRow_other w b k _ hk) (.of (setRow_heap w b vs _ _ _ hheap) hks) (fun _ => by rw [hsize]; exact hvs) hcm ?_ (fun j d hj => ?_) rfl rfl rfl (by simp)).1
            · rw [hsize]; show (setR ob.cells off cs).length ≤ _; rw [setR_length _ _ _ p2]; exact hlen
            · have hj' : (setR ob.cells off cs)[j]? = some d := hj
              rw [setR_get _ _ _ _ p2] at hj'
              rw [List.getElem?_toArray]
              by_cases hin : off ≤ j ∧ j < off + cs.length
              · rw [if_pos hin] at hj'
                obtain ⟨u, q1, q2⟩ := k2 _ d hj'
                refine ⟨u, ?_, q2⟩
                rw [List.append_assoc, List.getElem?_append_right (by omega), htk, List.getElem?_append_left (by simp; omega)]
                simpa using q1
              · rw [if_neg hin] at hj'
                obtain ⟨u, q1, q2⟩ := hcells j d hj'
                refine ⟨u, ?_, q2⟩
                have hjl := (Array.getElem?_eq_some_iff.1 q1).1
                by_cases hlt : j < off
                · rw [List.append_assoc, List.getElem?_append_left (by omega), List.getElem?_take, if_pos hlt]; simpa using q1
                · rw [List.getElem?_append_right (by simp; omega), List.getElem?_drop]
                  have : off + (a.eval y).cells.toList.length + (j - (vs.toList.take off ++ (a.eval y).cells.toList).length) = j := by simp; omega
                  rw [this]; simpa using q1
        · cases h
      · cases h
    · cases h
  · rename_i t m k v ho
    split at h
    · rename_i sl gn kv kd z hm hk hinf
      split at h
      · rename_i ob hob
        split at h
        · rename_i ks hks
          split at h
          · rename_i hc
            obtain ⟨hgen, hkey⟩ := hc
            have hmv := hr.ev m; rw [hm] at hmv
            have hkv := hr.ev k; rw [hk] at hkv
            have hvv := hr.ev v
            generalize hme : a.eval m = vm at hmv
            generalize hke : a.eval k = vk at hkv
            cases hkv
            obtain ⟨hg', b, c, vs, hgt, hheap, _, hcm, hlen, hcells⟩ := hr.obj sl ob hob
            cases hmv with | mp _ _ b' _ hmv =>
            have := hmv b c (by rw [← hgen]; exact hgt)
            subst this
            obtain ⟨kt, et, i, hu, hkt, hi, hz⟩ := mapInfo_spec hinf
            unfold HeapIs at hheap
            rw [hks] at hheap
            obtain ⟨es, clock, hb, rfl, hvs⟩ := hheap
            cases hfv : findV kd kv (es.toList.map (·.key)) with
            | none => rw [hfv] at h; cases h
            | some r =>
              rw [hfv] at h
              rcases findV_now kd kv es.toList r hfv 0 with ⟨rfl, h2⟩ | ⟨j, e, rfl, h2, h3, h4⟩
              · simp only [putMap, Option.some.injEq, Prod.mk.injEq] at h
                obtain ⟨rfl, rfl⟩ := h
                refine ⟨{ w with heap := w.heap.setIfInBounds b' (.map (es.push { key := kv, val := a.eval v, born := clock }) (clock + 1)) }, ?_, ?_⟩
                · simp only [execOp, ho, hme, hke, Instr.mapUpdate, Sem.run_bind, run_underlying hu, MapKept.run_getObj_map hb, Result.andThen_ok, MapKept.run_checkKey hkt (keyB_key hkey), MapKept.run_findKey hkt h2, MapKept.run_setObj_map _ hb]
                  rfl
                · have hs := MapKept.heap_set (o' := .map (es.push { key := kv, val := a.eval v, born := clock }) (clock + 1)) hb
                  have hvl : vs.size = ob.cells.length := by
                    have h1 : (es.toList.map (·.val)).length = vs.toList.length := by rw [hvs]
                    simp only [List.length_map, Array.length_toList] at h1
                    simp only [List.length_map, Array.length_toList] at hp
                    omega
                  refine (hr.write (w' := { w with heap := w.heap.setIfInBounds b' (.map (es.push { key := kv, val := a.eval v, born := clock }) (clock + 1)) }) sl b' c (vs.push (a.eval v)) ob { ob with keys := some (es.toList.map (·.key) ++ [kv]), cells := ob.cells ++ [s.ev v] } hob hgt rfl (fun k hk => hs.2 k hk) ⟨_, _, hs.1, by simp, by simp [hvs]⟩ (fun k => by cases k) hcm (by simp [hvl]) (fun j d hj => ?_) rfl rfl rfl (by simp)).1
                  by_cases hjl : j < ob.cells.length
                  · rw [List.getElem?_append_left hjl] at hj
                    obtain ⟨u, k1, k2⟩ := hcells j d hj
                    exact ⟨u, by rw [Array.getElem?_push, if_neg (by omega)]; exact k1, k2⟩
                  · rw [List.getElem?_append_right (by omega)] at hj
                    have hj0 : j = ob.cells.length := by
                      have := (List.getElem?_eq_some_iff.1 hj).1
                      simp at this; omega
                    subst hj0
                    simp at hj
                    subst hj
                    exact ⟨a.eval v, by rw [Array.getElem?_push, if_pos hvl.symm], hvv⟩
              · simp only [putMap, Option.some.injEq, Prod.mk.injEq] at h
                obtain ⟨rfl, rfl⟩ := h
                obtain ⟨hek, hbits⟩ := sameNow_bits h4
                have he' : es[j]? = some e := by simpa using h2
                have hkeep : (Instr.keyThatStays e.key kv).run P w = .ok kv w := by simp [Instr.keyThatStays, hbits]
                have hmod : (es.modify j fun x => { x with key := kv, val := a.eval v }).toList = es.toList.set j { e with key := kv, val := a.eval v } := by
                  apply List.ext_getElem?
                  intro i
                  rw [Array.getElem?_toList, Array.getElem?_modify, List.getElem?_set]
                  by_cases hij : j = i
                  · subst hij
                    obtain ⟨hl, he2⟩ := Array.getElem?_eq_some_iff.1 he'
                    simp [hl, he2]
                  · simp [hij]
                refine ⟨{ w with heap := w.heap.setIfInBounds b' (.map (es.modify j fun x => { x with key := kv, val := a.eval v }) clock) }, ?_, ?_⟩
                · have hgd : ((es[j]?).map (·.key)).getD kv = e.key := by rw [he']; rfl
                  simp only [execOp, ho, hme, hke, Instr.mapUpdate, Sem.run_bind, run_underlying hu, MapKept.run_getObj_map hb, Result.andThen_ok, MapKept.run_checkKey hkt (keyB_key hkey), MapKept.run_findKey hkt h3, Nat.zero_add, hgd, hkeep, MapKept.run_setObj_map _ hb]
                  rfl
                · have hs := MapKept.heap_set (o' := .map (es.modify j fun x => { x with key := kv, val := a.eval v }) clock) hb
                  refine (hr.write (w' := { w with heap := w.heap.setIfInBounds b' (.map (es.modify j fun x => { x with key := kv, val := a.eval v }) clock) }) sl b' c (vs.setIfInBounds j (a.eval v)) ob { ob with cells := ob.cells.set j (s.ev v) } hob hgt rfl (fun k hk => hs.2 k hk) ?_ (fun k => by rw [hks] at k; cases k) hcm (by simpa using hlen) (fun i d hi' => ?_) rfl rfl rfl (by simp)).1
                  · unfold HeapIs
                    simp only [hks]
                    refine ⟨_, _, hs.1, ?_, ?_⟩
                    · rw [hmod, List.map_set]
                      show (es.toList.map (·.key)).set j kv = _
                      rw [← hek]
                      refine List.ext_getElem? fun i => ?_
                      rw [List.getElem?_set]
                      by_cases hij : j = i
                      · subst hij
                        obtain ⟨hl, he2⟩ := Array.getElem?_eq_some_iff.1 he'
                        simp [hl, he2]
                      · simp [hij]
                    · rw [hmod, List.map_set, hvs]
                      simp
                  · have hi'' : (ob.cells.set j (s.ev v))[i]? = some d := hi'
                    rw [List.getElem?_set] at hi''
                    have hjv : j < vs.size := by
                      have h1 : (es.toList.map (·.val)).length = vs.toList.length := by rw [hvs]
                      have hl := (List.getElem?_eq_some_iff.1 h2).1
                      simp only [List.length_map, Array.length_toList] at h1 hl
                      omega
                    by_cases hij : j = i
                    · subst hij
                      rw [if_pos rfl] at hi''
                      split at hi''
                      · cases hi''
                        exact ⟨a.eval v, by simp [hjv], hvv⟩
                      · cases hi''
                    · rw [if_neg hij] at hi''
                      obtain ⟨u, k1, k2⟩ := hcells i d hi''
                      exact ⟨u, by rw [Array.getElem?_setIfInBounds_ne hij]; exact k1, k2⟩
          · cases h
        · cases h
      · cases h
    · cases h
  · cases h
end

section
variable {P : Program} {w0 : Bs} {M : Nat → Prop} {g : Nat → Option (Nat × Nat × Nat)} {s : St} {a : Act} {w : World}

theorem det_any {V V' : View} {d : D} {v : Value} (h : (detD d).isSome = true) (k : Rd V d v) : Rd V' d v := by
  cases k <;> simp [detD] at h
  · exact .sc _
  · rename_i ds vs hl hv
    obtain ⟨us, hus⟩ := Option.isSome_iff_exists.1 h
    refine .tp ds vs hl fun i d v hd hv' => ?_
    have key : ∀ (ds : List D) (us : List Value), ds.mapM scV = some us → ∀ (i : Nat) (d : D), ds[i]? = some d → ∃ u, d = .sc u := by
      intro ds
      induction ds with
      | nil => intro us _ i d h; simp at h
      | cons e ds ih =>
        intro us h i d hi
        rw [List.mapM_cons] at h
        simp only [Option.bind_eq_bind, Option.bind_eq_some_iff, Option.pure_def, Option.some.injEq] at h
        obtain ⟨u, hu, us', hus, rfl⟩ := h
        cases i with
        | zero =>
          simp at hi; subst hi
          cases e <;> simp [scV] at hu
          exact ⟨_, rfl⟩
        | succ i => exact ih us' hus i d (by simpa using hi)
    obtain ⟨u, rfl⟩ := key ds us hus i d hd
    have := hv i _ v hd hv'
    cases this
    exact .sc _

theorem Fb.rd (hr : Rep w0 M g s a w) {rest Ts : List TE} (hp : s.T.Perm (Ts ++ rest)) {d e : D} (h : Fb s.H rest d e) : ∀ {v : Value}, Rd (view w M g s.n) d v → Rd (view w (fun b => w0.M b ∨ ∃ e ∈ Ts, b ∈ e.F) (fun _ => none) noN) e v := by
  induction h with
  | fz h =>
    intro v hv
    refine (Rd.freeze hr h hv).mono (view_le fun b q => (hr.mm b).2 ?_)
    rcases q with q | ⟨e, he, hb⟩
    · exact .inl q
    · exact .inr ⟨e, hp.mem_iff.2 (List.mem_append_left _ he), hb⟩
  | tr te hte =>
    intro v hv
    cases hv
    have hm : te ∈ s.T := hp.mem_iff.2 (List.mem_append_right _ hte)
    obtain ⟨h1, h2⟩ := hr.tree te hm
    refine h1.rd fun b hb => ⟨?_, by simp⟩
    rintro (q | ⟨e, he, hb'⟩)
    · exact hr.zm b q (h2 b hb)
    · have hn : (bl (Ts ++ rest)).Nodup := (hp.flatMap_right _).nodup hr.nd
      rw [bl_app, List.nodup_append] at hn
      exact hn.2.2 b (mem_bl.2 ⟨e, he, hb'⟩) b (mem_bl.2 ⟨te, hte, hb⟩) rfl
  | ag ds es hl h ih =>
    intro v hv
    cases hv with | ag _ vs hl' hv =>
    refine .ag es vs (by omega) fun i e v he hv' => ?_
    have hi : i < ds.length := by have := (List.getElem?_eq_some_iff.1 he).1; omega
    exact ih i _ e (List.getElem?_eq_getElem hi) he (hv i _ v (List.getElem?_eq_getElem hi) hv')

theorem callOk_sound (hr : Rep w0 M g s a w) {f : FuncId} {as : List D} {r : D} (h : CallOk P s.H s.T f as r) {vs : List Value} (hl : as.length = vs.length)
    (hv : ∀ (i : Nat) (d : D) (v : Value), as[i]? = some d → vs[i]? = some v → Rd (view w M g s.n) d v) :
    callable P f ∧ Calls P f vs.toArray w fun e w' => ∃ v, e = .returned v ∧ Below w.heap.size w w' ∧ Rd (view w' M g s.n) r v := by
  rcases h with ⟨h, hcl⟩ | ⟨bs, hbl, hfz, h, hdet⟩
  · refine ⟨h.ok, (h.run w (fun b => M b ∨ ∃ t x c, g t = some (x, b, c)) vs ?_ hl fun i d v hd hv' => ?_).mono fun e w' ⟨v, he, hb, hR⟩ => ⟨v, he, hb, hR.mono ?_⟩⟩
    · rintro b (k | ⟨t, x, c, k⟩)
      · exact (hr.m0 b k).1
      · exact (hr.base _ _ _ _ k).2
    · refine (hv i d v hd hv').closed (fun b o u e => ?_) (hcl i d hd)
      obtain ⟨k1, k2⟩ := view_free e
      exact view_mk (view_cell e) (fun k => k.elim k1 fun ⟨t, x, c, k⟩ => k2 _ _ _ k) (by simp)
    · refine ⟨fun b o u e => ?_, fun _ => Nat.zero_le _, fun s x b c hx e => absurd hx (Nat.not_lt_zero _)⟩
      obtain ⟨k1, _⟩ := view_free e
      exact view_mk (view_cell e) (fun k => k1 (.inl k)) fun t x c k => k1 (.inr ⟨t, x, c, k⟩)
  · refine ⟨h.ok, (h.run w (fun b => w0.M b ∨ ∃ e ∈ ([] : List TE), b ∈ e.F) vs ?_ (by omega) fun i e v he hv' => ?_).mono fun e w' ⟨v, he, hb, hR⟩ => ⟨v, he, hb, det_any hdet hR⟩⟩
    · rintro b (k | ⟨_, k, _⟩)
      · exact (hr.m0 b ((hr.mm b).2 (.inl k))).1
      · cases k
    · have hi : i < as.length := by rw [← hbl]; exact (List.getElem?_eq_some_iff.1 he).1
      exact (hfz i _ e (List.getElem?_eq_getElem hi) he).rd hr (List.Perm.refl _) (hv i _ v (List.getElem?_eq_getElem hi) hv')

/-- What stands behind, over states of the machine. -/
def LQ (w0 : Bs) (Q : Exit → St → Prop) : Exit → Act → World → Prop := fun e a w => ∃ s g M, Q e s ∧ Rep w0 M g s a w
def LK (w0 : Bs) (K : St → Prop) : Act → World → Prop := fun a w => ∃ s g M, K s ∧ Rep w0 M g s a w

/-- What stands after such a call. -/
theorem Rep.called (hr : Rep w0 M g s a w) {Ts rest : List TE} (hp : s.T.Perm (Ts ++ rest)) {ds : List D} (hlen : ds.length = Ts.length) {w' : World} (hok : (mkB w w0.M fun b => ∃ e ∈ Ts, b ∈ e.F).Ok w') (htr : ∀ e ∈ upT Ts ds, T1 w' e.d e.u e.F)
    {T' : List TE} (h1 : ∀ te ∈ T', T1 w' te.d te.u te.F) (hn : (bl T').Nodup) (hge : ∀ b ∈ bl T', w.heap.size ≤ b) {Tn : List TE} (hpn : Tn.Perm (upT Ts ds ++ rest ++ T')) :
    Rep w0 (fun b => M b ∨ b ∈ bl T') g { s with T := Tn } a w' := by
  have hTsM : ∀ b, (∃ e ∈ Ts, b ∈ e.F) → M b := fun b ⟨e, he, hb⟩ => (hr.mm b).2 (.inr ⟨e, hp.mem_iff.2 (List.mem_append_left _ he), hb⟩)
  have hkeep : ∀ b, b < w.heap.size → ¬ (∃ e ∈ Ts, b ∈ e.F) → w'.heap[b]? = w.heap[b]? := fun b hb hn => hok.block b fun k => by
    rcases k with k | k
    · exact absurd k (by simp only; omega)
    · exact hn k
  have hgM : ∀ t x b c, g t = some (x, b, c) → ¬ M b := fun t x b c e k => (hr.m0 b k).2 _ _ _ e
  have hx : (view w M g s.n).Ext (view w' (fun b => M b ∨ b ∈ bl T') g s.n) := by
    refine ⟨fun b o u e => ?_, fun _ => Nat.le_refl _, fun _ _ _ _ _ e => e⟩
    have hb := lt_of_cell (view_cell e)
    refine view_mk ((cell_same (hkeep b hb fun k => (view_free e).1 (hTsM b k))).trans (view_cell e)) ?_ (view_free e).2
    rintro (k | k)
    · exact (view_free e).1 k
    · have := hge b k; omega
  have hnd0 : (bl (Ts ++ rest)).Nodup := (hp.flatMap_right _).nodup hr.nd
  have hbu : bl (upT Ts ds ++ rest ++ T') = bl (Ts ++ rest) ++ bl T' := by rw [bl_app, bl_app, bl_app, upT_bl Ts ds hlen]
  have hold : ∀ b, b ∈ bl (Ts ++ rest) → b < w.heap.size := fun b hb => by
    obtain ⟨e, he, hb⟩ := mem_bl.1 hb
    exact (hr.tree e (hp.mem_iff.2 he)).1.lt b hb
  refine ⟨hr.defers, hr.size, fun i => (hr.env i).mono hx, fun t ob ht => (hr.obj t ob ht).mono hx fun x b c e => ⟨e, hkeep b (hr.base _ _ _ _ e).2 fun k => hgM _ _ _ _ e (hTsM b k)⟩,
    fun t x b c e => ⟨(hr.base t x b c e).1, Nat.lt_of_lt_of_le (hr.base t x b c e).2 hok.size⟩, hr.inj, hr.below.step hok.os hok.tape hok.output hok.size fun k hk => ?_, fun b k => ?_, fun b => ?_, hr.zm, fun e he => ?_, ?_, ?_⟩
  · exact hkeep k (Nat.lt_of_lt_of_le (Bs.not_own hk) hr.below.size) fun ⟨e, he, hb⟩ => hk ((hr.tree e (hp.mem_iff.2 (List.mem_append_left _ he))).2 k hb)
  · rcases k with k | k
    · exact ⟨Nat.lt_of_lt_of_le (hr.m0 b k).1 hok.size, (hr.m0 b k).2⟩
    · obtain ⟨te, hte, hb⟩ := mem_bl.1 k
      exact ⟨(h1 te hte).lt b hb, fun t x c e => by have := (hr.base _ _ _ _ e).2; have := hge b k; omega⟩
  · have hsplit : (∃ e ∈ Tn, b ∈ e.F) ↔ (∃ e ∈ s.T, b ∈ e.F) ∨ b ∈ bl T' := by
      rw [← mem_bl, ← mem_bl, (hpn.flatMap_right (fun e : TE => e.F)).mem_iff, (hp.flatMap_right (fun e : TE => e.F)).mem_iff]
      show b ∈ bl _ ↔ b ∈ bl _ ∨ _
      rw [hbu, List.mem_append]
    show _ ↔ _ ∨ (∃ e ∈ Tn, b ∈ e.F)
    rw [hsplit, hr.mm b, or_assoc]
  · rcases List.mem_append.1 (hpn.mem_iff.1 he) with he | he
    · rcases List.mem_append.1 he with he | he
      · refine ⟨htr e he, fun b hb => ?_⟩
        have : b ∈ bl Ts := by rw [← upT_bl Ts ds hlen]; exact mem_bl.2 ⟨e, he, hb⟩
        obtain ⟨e', he', hb'⟩ := mem_bl.1 this
        exact (hr.tree e' (hp.mem_iff.2 (List.mem_append_left _ he'))).2 b hb'
      · obtain ⟨q1, q2⟩ := hr.tree e (hp.mem_iff.2 (List.mem_append_right _ he))
        refine ⟨q1.mono fun b hb => hkeep b (q1.lt b hb) fun ⟨e', he', hb'⟩ => ?_, q2⟩
        rw [bl_app, List.nodup_append] at hnd0
        exact hnd0.2.2 b (mem_bl.2 ⟨e', he', hb'⟩) b (mem_bl.2 ⟨e, he, hb⟩) rfl
    · exact ⟨h1 e he, fun b hb => .inl (Nat.le_trans hr.below.size (hge b (mem_bl.2 ⟨e, he, hb⟩)))⟩
  · refine (hpn.flatMap_right _).symm.nodup ?_
    show (bl _).Nodup
    rw [hbu, List.nodup_append]
    exact ⟨hnd0, hn, fun x hx y hy e => by subst e; have := hold x hx; have := hge x hy; omega⟩
  · exact hr.og

theorem callG_sound (hr : Rep w0 M g s a w) {f : FuncId} {args : List D} {dst : Option Nat} {K : St → Prop} (h : callG P s f args dst K) {vs : List Value} (hl : args.length = vs.length)
    (hv : ∀ (i : Nat) (d : D) (v : Value), args[i]? = some d → vs[i]? = some v → Rd (view w M g s.n) d v) :
    callable P f ∧ Calls P f vs.toArray w fun e w' => ∃ v, e = .returned v ∧ LK w0 K (a.put dst v) w' := by
  obtain ⟨as, Ts, rest, ds, r, hp, hal, hfb, hsp, hK⟩ := h
  refine ⟨hsp.ok, (hsp.run w w0.M vs (fun b k => (hr.m0 b ((hr.mm b).2 (.inl k))).1) (by omega) (fun i e v he hv' => ?_) (fun e he => ?_) ?_).mono fun e w' ⟨v, he, hok, htr, F, hF, hn, hge⟩ => ⟨v, he, ?_⟩⟩
  · have hi : i < args.length := by have := (List.getElem?_eq_some_iff.1 he).1; omega
    exact (hfb i _ e (List.getElem?_eq_getElem hi) he).rd hr hp (hv i _ v (List.getElem?_eq_getElem hi) hv')
  · obtain ⟨h1, h2⟩ := hr.tree e (hp.mem_iff.2 (List.mem_append_left _ he))
    exact ⟨h1, fun b hb k => hr.zm b k (h2 b hb)⟩
  · have hn : (bl (Ts ++ rest)).Nodup := (hp.flatMap_right _).nodup hr.nd
    rw [bl_app] at hn
    exact (List.nodup_append.1 hn).1
  · obtain ⟨d, T', h1, h2, h3, rfl⟩ := hF.opn
    obtain ⟨Tn, hpn, hk⟩ := hK d T' h1
    exact ⟨_, _, _, hk, (hr.called hp hsp.len hok htr h3 hn hge hpn).put (h2 _) dst⟩

theorem callO_sound (hr : Rep w0 M g s a w) {f : FuncId} {args : List D} {dst : Option Nat} {K : St → Prop} (h : callO P s f args dst K) {vs : List Value} (hl : args.length = vs.length)
    (hv : ∀ (i : Nat) (d : D) (v : Value), args[i]? = some d → vs[i]? = some v → Rd (view w M g s.n) d v) :
    callable P f ∧ Calls P f vs.toArray w fun e w' => ∃ v, e = .returned v ∧ LK w0 K (a.put dst v) w' := by
  obtain ⟨t, e, sz, rows, rfl, hsp, hcl, hK⟩ := h
  refine ⟨hsp.ok, (hsp.run w (fun b => M b ∨ ∃ t x c, g t = some (x, b, c)) vs ?_ hl fun i d v hd hv' => ?_).mono fun x w' ⟨b, c, us, hx, hb, hge, hheap, hsz, hc, hlen, hcells⟩ => ⟨_, hx, ?_⟩⟩
  · rintro b (k | ⟨t, x, c, k⟩)
    · exact (hr.m0 b k).1
    · exact (hr.base _ _ _ _ k).2
  · refine (hv i d v hd hv').closed (fun b o u e => ?_) (hcl i d hd)
    obtain ⟨k1, k2⟩ := view_free e
    exact view_mk (view_cell e) (fun k => k.elim k1 fun ⟨t, x, c, k⟩ => k2 _ _ _ k) (by simp)
  · have hr' := hr.rebind_at (w' := w') t t b c us { gen := s.n t, elem := e, sz, cells := rows.flatten } rfl (fun k hk _ => hb.block k hk) (.inl hge) (lt_of_heap hheap) (.of hheap rfl) (fun _ => hsz) hc.1 hlen
      (fun j d hd => by
        obtain ⟨u, h1, h2⟩ := hcells j d hd
        refine ⟨u, h1, h2.mono ⟨fun b' o u e => ?_, fun _ => Nat.zero_le _, fun s x b c hx e => absurd hx (Nat.not_lt_zero _)⟩⟩
        obtain ⟨k1, _⟩ := view_free e
        refine view_mk (view_cell e) (fun k => k1 (.inl (.inl k))) fun t' x c' k => ?_
        by_cases ht : t' = t
        · subst ht; rw [upd_same] at k; cases k; exact k1 (.inr rfl)
        · rw [upd_ne _ _ ht, upd_ne _ _ ht] at k; exact k1 (.inl (.inr ⟨_, _, _, k⟩))) hb.os hb.tape hb.output hb.size
    exact ⟨_, _, _, hK, hr'.put (ms_rd (by show s.n t < bump s.n t t; rw [bump_same]; omega) hc.2 (upd_same _ _ _)) _⟩
theorem call_exec {o : Oper} {c : Call} {fo : Operand} {f : FuncId} {first caps : List Value} (ho : o.op = .call c) (hc : c.callee = .value fo) (hf : a.eval fo = .func (.func f) first.toArray caps.toArray) (hcal : callable P f) (w : World) :
    (execOp a.eval o).run P w = .ok (.enter f (first ++ c.args.toList.map a.eval ++ caps).toArray) w := by
  obtain ⟨fn, h1, h2, h3⟩ := hcal
  have e : (first.toArray ++ c.args.map a.eval ++ caps.toArray) = (first ++ c.args.toList.map a.eval ++ caps).toArray := by
    apply Array.ext'; simp
  have h2' : fn.name ≠ "runtime.NumGoroutine" := by simpa using h2
  have h3' : fn.body ≠ none := by intro k; rw [k] at h3; cases h3
  have hcf : (callFunc f (first ++ c.args.toList.map a.eval ++ caps).toArray).run P w = .ok (.enter f (first ++ c.args.toList.map a.eval ++ caps).toArray) w := by
    simp [callFunc, h1, h2', h3']
  simp only [execOp, ho, Sem.run_bind, resolve, hc, hf, Deferred.ofValue, Sem.run_pure, Result.andThen_ok, invoke]
  rw [e]
  exact hcf

theorem fn_lists {V : View} {f : FuncId} {first caps : List D} {v : Value} (h : Rd V (.fn f first caps) v) : ∃ us ws : List Value, v = .func (.func f) us.toArray ws.toArray ∧ first.length = us.length ∧ caps.length = ws.length ∧
    (∀ (i : Nat) (d : D) (v : Value), first[i]? = some d → us[i]? = some v → Rd V d v) ∧ ∀ (i : Nat) (d : D) (v : Value), caps[i]? = some d → ws[i]? = some v → Rd V d v := by
  cases h with | fn _ _ _ us ws h1 h2 h3 h4 => exact ⟨us, ws, rfl, h1, h2, h3, h4⟩
theorem app_lists {V : View} {as bs : List D} {us vs : List Value} (h1 : as.length = us.length) (h2 : ∀ (i : Nat) (d : D) (v : Value), as[i]? = some d → us[i]? = some v → Rd V d v)
    (h3 : bs.length = vs.length) (h4 : ∀ (i : Nat) (d : D) (v : Value), bs[i]? = some d → vs[i]? = some v → Rd V d v) :
    (as ++ bs).length = (us ++ vs).length ∧ ∀ (i : Nat) (d : D) (v : Value), (as ++ bs)[i]? = some d → (us ++ vs)[i]? = some v → Rd V d v := by
  refine ⟨by simp [h1, h3], fun i d v hd hv => ?_⟩
  by_cases hi : i < as.length
  · rw [List.getElem?_append_left hi] at hd
    rw [List.getElem?_append_left (by omega)] at hv
    exact h2 i d v hd hv
  · rw [List.getElem?_append_right (by omega)] at hd hv
    rw [h1] at hd
    exact h4 _ d v hd hv

theorem putK_sound (hr : Rep w0 M g s a w) {o : Oper} {K : St → Prop} {Q : Exit → Act → World → Prop} (h : putK s o.dst K (stepP P s o.op)) : o.wp P a w (LK w0 K) Q := by
  cases hs : stepP P s o.op with
  | none => rw [hs] at h; exact h.elim
  | some d =>
    rw [hs] at h
    obtain ⟨v, h1, h2⟩ := stepP_sound hr hs
    have := h2 w (Below.refl _ _)
    simp only [Oper.wp, this, Oper.upon_value]
    exact ⟨_, g, M, h, hr.put h1 _⟩
theorem memK_sound (hr : Rep w0 M g s a w) {mu : List Nat} {o : Oper} {t : Nat} (ht : o.dst = some t) {K : St → Prop} {Q : Exit → Act → World → Prop} (h : memK t K (stepMem P mu s t o.op)) : o.wp P a w (LK w0 K) Q := by
  cases hs : stepMem P mu s t o.op with
  | none => rw [hs] at h; exact h.elim
  | some x =>
    obtain ⟨p, s1, d⟩ := x
    rw [hs] at h
    obtain ⟨v, w', g', h1, h2, h3⟩ := stepMem_sound hr hs h.1
    simp only [Oper.wp, h1, Oper.upon_value]
    exact ⟨_, g', M, h.2, by rw [ht]; exact h2.put h3 _⟩

theorem vcOp_sound (hr : Rep w0 M g s a w) {mu : List Nat} {o : Oper} {K : St → Prop} {Q : Exit → Act → World → Prop} (h : vcOp P mu o.op o.dst K s) : o.wp P a w (LK w0 K) Q := by
  obtain ⟨dst, op, ty, pos, after, guard⟩ := o
  cases op
  case call c =>
    obtain ⟨callee, args, argTypes⟩ := c
    cases callee
    case value f =>
      simp only [vcOp] at h
      have hf := hr.ev f
      unfold callK at h
      split at h
      · rename_i g' first caps hfe
        rw [hfe] at hf
        obtain ⟨us, ws, e, l1, l2, r1, r2⟩ := fn_lists hf
        obtain ⟨l3, r3⟩ := list_sound hr args.toList
        obtain ⟨l4, r4⟩ := app_lists l1 r1 l3 r3
        obtain ⟨l5, r5⟩ := app_lists l4 r4 l2 r2
        rcases h with ⟨r, hc, hK⟩ | h
        · obtain ⟨hcal, hcalls⟩ := callOk_sound hr hc l5 r5
          have hex := call_exec (a := a) (o := ⟨dst, .call ⟨.value f, args, argTypes⟩, ty, pos, after, guard⟩) rfl rfl e hcal w
          simp only [Oper.wp, hex, Oper.upon_enter]
          refine hcalls.mono fun e' w' ⟨v, he, hb, hR⟩ => ?_
          subst he
          exact ⟨_, g, M, hK, (hr.grow hb).put hR _⟩
        · have hgo : callable P g' ∧ Calls P g' (us ++ args.toList.map a.eval ++ ws).toArray w fun e w' => ∃ v, e = .returned v ∧ LK w0 K (a.put dst v) w' := by
            rcases h with h | h
            · exact callG_sound hr h l5 r5
            · rcases h with h | h
              · exact callO_sound hr h l5 r5
              · obtain ⟨q1, q2⟩ := h _ _ _ _ _ s.env hr _ l5 r5
                exact ⟨q1, q2.mono fun e w' ⟨v, d, H, n, T, g', M', he, hr', hd, hK⟩ => ⟨v, he, _, _, _, hK, hr'.put hd dst⟩⟩
          obtain ⟨hcal, hcalls⟩ := hgo
          have hex := call_exec (a := a) (o := ⟨dst, .call ⟨.value f, args, argTypes⟩, ty, pos, after, guard⟩) rfl rfl e hcal w
          simp only [Oper.wp, hex, Oper.upon_enter]
          refine hcalls.mono fun e' w' ⟨v, he, h⟩ => ?_
          subst he
          exact h
      · exact h.elim
    case invoke => exact putK_sound hr h
    case builtin b =>
      cases b
      case append =>
        simp only [vcOp] at h
        cases dst with
        | none => exact h.elim
        | some t => exact memK_sound hr (o := ⟨some t, .call ⟨.builtin .append, args, argTypes⟩, ty, pos, after, guard⟩) rfl h
      all_goals exact putK_sound hr h
  case store ty' x y =>
    simp only [vcOp] at h
    cases hs : stepStore P s (.store ty' x y) with
    | none => rw [hs] at h; exact h.elim
    | some q =>
      obtain ⟨p, s1⟩ := q
      rw [hs] at h
      obtain ⟨w', h1, h2⟩ := stepStore_sound hr (o := ⟨dst, .store ty' x y, ty, pos, after, guard⟩) hs h.1
      simp only [Oper.wp, h1, Oper.upon_skip]
      exact ⟨_, g, M, h.2, h2.put (.sc undef) dst⟩
  case mapUpdate ty' m k v =>
    simp only [vcOp] at h
    cases hs : stepStore P s (.mapUpdate ty' m k v) with
    | none => rw [hs] at h; exact h.elim
    | some q =>
      obtain ⟨p, s1⟩ := q
      rw [hs] at h
      obtain ⟨w', h1, h2⟩ := stepStore_sound hr (o := ⟨dst, .mapUpdate ty' m k v, ty, pos, after, guard⟩) hs h.1
      simp only [Oper.wp, h1, Oper.upon_skip]
      exact ⟨_, g, M, h.2, h2.put (.sc undef) dst⟩
  case box e x =>
    simp only [vcOp] at h
    cases dst with
    | none => exact h.elim
    | some t => exact memK_sound hr (o := ⟨some t, .box e x, ty, pos, after, guard⟩) rfl h
  case alloc e =>
    simp only [vcOp] at h
    cases dst with
    | none => exact h.elim
    | some t => exact memK_sound hr (o := ⟨some t, .alloc e, ty, pos, after, guard⟩) rfl h
  case makeMap e r =>
    simp only [vcOp] at h
    cases dst with
    | none => exact h.elim
    | some t => exact memK_sound hr (o := ⟨some t, .makeMap e r, ty, pos, after, guard⟩) rfl h
  case buildSlice e l ps =>
    simp only [vcOp] at h
    cases dst with
    | none => exact h.elim
    | some t => exact memK_sound hr (o := ⟨some t, .buildSlice e l ps, ty, pos, after, guard⟩) rfl h
  case makeSlice e l c =>
    simp only [vcOp] at h
    cases dst with
    | none => exact h.elim
    | some t => exact memK_sound hr (o := ⟨some t, .makeSlice e l c, ty, pos, after, guard⟩) rfl h
  all_goals exact putK_sound hr h

theorem guard_sound (hr : Rep w0 M g s a w) {ops : Array Oper} {j : Nat} {want : Bool} {run skip : St → Prop} (h : guardK (guardD (dsts ops.toList) s j) want run skip s) :
    ((yielded ops a.tmps j == some want) = true ∧ run s) ∨ ((yielded ops a.tmps j == some want) = false ∧ skip s) := by
  unfold guardD at h
  have hds : (dsts ops.toList)[j]? = (ops[j]?).map (·.dst) := by simp [dsts]
  rw [hds] at h
  cases hd : (ops[j]?).bind (·.dst) with
  | none =>
    cases ho : ops[j]? with
    | none => rw [ho] at h; exact h.elim
    | some o =>
      rw [ho] at h hd
      simp only [Option.bind_some] at hd
      simp only [Option.map_some, hd] at h
      exact h.elim
  | some t =>
    cases ho : ops[j]? with
    | none => rw [ho] at hd; cases hd
    | some o =>
    rw [ho] at h
    have hd' := hd
    rw [ho] at hd'
    simp only [Option.bind_some] at hd'
    simp only [Option.map_some, hd'] at h
    by_cases ht : t < s.nt
    · rw [if_pos ht] at h
      have hs : t < a.tmps.size := by rw [hr.size]; exact ht
      have hR := hr.env t
      have e1 : a.tmps[t]? = some (a.tmps.getD t undef) := by simp [Array.getD_eq_getD_getElem?, hs]
      generalize a.tmps.getD t undef = v at hR e1
      generalize hsd : s.env t = d at h hR
      unfold guardK at h
      split at h
      · rename_i b
        cases hR
        have hy : yielded ops a.tmps j = some b := by simp [yielded, hd, e1]
        rw [hy]
        by_cases hb : b = want
        · rw [if_pos hb] at h; exact .inl ⟨by simp [hb], h⟩
        · rw [if_neg hb] at h; exact .inr ⟨by simp [hb], h⟩
      · cases hR
        have hy : yielded ops a.tmps j = none := by simp [yielded, hd, e1]
        rw [hy]
        exact .inr ⟨by rfl, h⟩
      · exact h.elim
    · rw [if_neg ht] at h; exact h.elim

theorem vcOps_sound {mu : List Nat} {ops : Array Oper} {K : St → Prop} {Q : Exit → Act → World → Prop} (hQ : ∀ a w, LK w0 K a w → Q .normal a w) :
    ∀ (l : List Oper) {M : Nat → Prop} {g : Nat → Option (Nat × Nat × Nat)} {s : St} {a : Act} {w : World}, Rep w0 M g s a w → vcOps P mu (dsts ops.toList) l K s → wpList P ops Q l a w
  | [], M, g, s, a, w, hr, h => hQ a w ⟨s, g, M, h, hr⟩
  | o :: rest, M, g, s, a, w, hr, h => by
    simp only [vcOps] at h
    unfold wpList
    have next : ∀ a' w', LK w0 (vcOps P mu (dsts ops.toList) rest K) a' w' → wpList P ops Q rest a' w' := fun a' w' ⟨s', g', M', h1, h2⟩ => vcOps_sound hQ rest h2 h1
    have lift : ∀ {K' : St → Prop}, o.wp P a w (LK w0 (vcOps P mu (dsts ops.toList) rest K)) Q → o.wp P a w (wpList P ops Q rest) Q := fun hh => Oper.wp_mono next hh
    split at h
    · rename_i hg
      rw [if_pos (by simp [Region.wanted, hg])]
      unfold ghK at h
      split at h
      · obtain ⟨s', g', M', h1, h2⟩ := h _ _ _ _ _ hr
        exact .inl (lift (K' := K) (vcOp_sound h2 h1))
      · exact .inl (lift (K' := K) (vcOp_sound hr h))
    · rename_i j want hg
      rcases guard_sound hr h with ⟨e, h⟩ | ⟨e, h⟩
      · rw [if_pos (by simp only [Region.wanted, hg]; exact e)]
        exact .inl (lift (K' := K) (vcOp_sound hr h))
      · rw [if_neg (by simp only [Region.wanted, hg]; rw [e]; simp)]
        exact vcOps_sound hQ rest (hr.put (.sc undef) o.dst) h
end

/-! ### A region that draws its order: operations that read and calls, each order like the text's -/
/-- what an operation yields, over data -/
def yieldP (P : Program) (s : St) (op : Op) (d : D) : Prop :=
  match op with
  | .call c => match c.callee with
    | .value f => match s.ev f with
      | .fn g first caps => CallOk P s.H s.T g (first ++ c.args.toList.map s.ev ++ caps) d
      | _ => False
    | _ => stepP P s (.call c) = some d
  | op => stepP P s op = some d
def yieldG (P : Program) (ops : Array Oper) (s : St) (o : Oper) (d : D) : Prop :=
  match o.guard with
  | none => yieldP P s o.op d
  | some (j, want) => guardK (guardD (dsts ops.toList) s j) want (fun s => yieldP P s o.op d) (fun _ => d = .sc undef) s
/-- whatever order -/
def anyD (P : Program) (md : Region.Mode) (ops : Array Oper) (K : St → Prop) : Nat → Array Bool → St → Prop
  | 0, listed, s => Region.ready md ops listed = [] ∧ K s
  | fuel + 1, listed, s => (Region.ready md ops listed = [] → K s) ∧
    ∀ i ∈ Region.ready md ops listed, ∃ o, ops[i]? = some o ∧ ∃ d, yieldG P ops s o d ∧ anyD P md ops K fuel (listed.setIfInBounds i true) (s.put o.dst d)

section
variable {P : Program} {w0 : Bs} {M : Nat → Prop} {g : Nat → Option (Nat × Nat × Nat)} {s : St} {a : Act} {w : World} {md : Region.Mode} {ops : Array Oper}

theorem yieldP_sound (hr : Rep w0 M g s a w) {o : Oper} {d : D} {K : St → Prop} {Q : Exit → Act → World → Prop} (h : yieldP P s o.op d) (hK : K (s.put o.dst d)) : o.wp P a w (LK w0 K) Q := by
  have put : stepP P s o.op = some d → o.wp P a w (LK w0 K) Q := fun h => putK_sound hr (by rw [h]; exact hK)
  obtain ⟨dst, op, ty, pos, after, guard⟩ := o
  cases op
  case call c =>
    obtain ⟨callee, args, argTypes⟩ := c
    cases callee
    case value f =>
      refine vcOp_sound hr (mu := []) ?_
      simp only [yieldP] at h
      simp only [vcOp, callK]
      split at h
      · first | exact .inl ⟨d, h, hK⟩ | (rename_i g' first caps hfe; first | exact .inl ⟨d, h, hK⟩ | (rw [hfe]; exact .inl ⟨d, h, hK⟩))
      · exact h.elim
    all_goals exact put h
  all_goals exact put h

theorem anyD_sound {K : St → Prop} {Q : Exit → Act → World → Prop} (hQ : ∀ a w, LK w0 K a w → Q .normal a w) : ∀ (fuel : Nat) (listed : Array Bool) {M : Nat → Prop} {g : Nat → Option (Nat × Nat × Nat)} {s : St} {a : Act} {w : World}, Rep w0 M g s a w → anyD P md ops K fuel listed s → wpAny P md ops Q fuel listed a w
  | 0, _, M, g, s, a, w, hr, h => ⟨h.1, hQ _ _ ⟨s, g, M, h.2, hr⟩⟩
  | fuel + 1, listed, M, g, s, a, w, hr, h => by
    refine ⟨fun e => hQ _ _ ⟨s, g, M, h.1 e, hr⟩, fun i hi => ?_⟩
    obtain ⟨o, ho, d, hy, hn⟩ := h.2 i hi
    have go : yieldP P s o.op d → o.wp P a w (wpAny P md ops Q fuel (listed.setIfInBounds i true)) Q := fun hy =>
      Oper.wp_mono (fun a w ⟨s', g', M', h1, h2⟩ => anyD_sound hQ fuel _ h2 h1) (yieldP_sound hr (K := anyD P md ops K fuel (listed.setIfInBounds i true)) hy hn)
    unfold wpOp
    simp only [ho]
    unfold yieldG at hy
    split at hy
    · rename_i hg
      rw [if_pos (by simp [Region.wanted, hg])]
      exact .inl (go hy)
    · rename_i j want hg
      rcases guard_sound hr hy with ⟨e, hy⟩ | ⟨e, hy⟩
      · rw [if_pos (by simp only [Region.wanted, hg]; exact e)]
        exact .inl (go hy)
      · rw [if_neg (by simp only [Region.wanted, hg]; rw [e]; simp)]
        subst hy
        exact anyD_sound hQ fuel _ (hr.put (.sc undef) o.dst) hn
end

/-! #### What a write to a temporary does not change -/
theorem put_ev {s : St} {dst : Option Nat} {d : D} {x : Operand} (h : ∀ t, dst = some t → x ≠ .tmp t) : (s.put dst d).ev x = s.ev x := by
  cases dst with
  | none => rfl
  | some t =>
    unfold St.put
    simp only
    split
    · cases x with
      | tmp u => simp only [St.ev, setE]; rw [if_neg]; intro e; subst e; exact h _ rfl rfl
      | _ => rfl
    · rfl
theorem put_H {s : St} {dst : Option Nat} {d : D} : (s.put dst d).H = s.H := by cases dst <;> simp only [St.put]; split <;> rfl
theorem put_T {s : St} {dst : Option Nat} {d : D} : (s.put dst d).T = s.T := by cases dst <;> simp only [St.put]; split <;> rfl
theorem put_nt {s : St} {dst : Option Nat} {d : D} : (s.put dst d).nt = s.nt := by cases dst <;> simp only [St.put]; split <;> rfl
theorem put_comm (s : St) {x y : Option Nat} (d e : D) (h : ∀ t, x = some t → y ≠ some t) : (s.put x d).put y e = (s.put y e).put x d := by
  cases x with
  | none => rfl
  | some t =>
    cases y with
    | none => rfl
    | some u =>
      have hne : t ≠ u := fun k => h t rfl (by rw [k])
      simp only [St.put]
      by_cases h1 : t < s.nt <;> by_cases h2 : u < s.nt <;> simp only [h1, h2, if_true, if_false]
      congr 1
      funext i
      simp only [setE]
      by_cases k1 : i = t <;> by_cases k2 : i = u <;> simp [k1, k2]
      · exact absurd (k1.symm.trans k2) hne
      all_goals (intro k; first | exact absurd k hne | exact absurd k.symm hne)
theorem ev_list {s s' : St} : ∀ {l : List Operand}, (∀ x ∈ l, s'.ev x = s.ev x) → l.map s'.ev = l.map s.ev := fun h => List.map_congr_left h
theorem loadD_congr {P : Program} {s s' : St} (hH : s'.H = s.H) {t : TypeId} {d : D} : loadD P s' t d = loadD P s t d := by cases d <;> simp only [loadD, hH]
theorem lookupD_congr {P : Program} {s s' : St} (hH : s'.H = s.H) {t : TypeId} {ok : Bool} {d e : D} : lookupD P s' t ok d e = lookupD P s t ok d e := by cases d <;> cases e <;> simp only [lookupD, hH]
theorem bytesD_congr {P : Program} {s s' : St} (hH : s'.H = s.H) {t u : TypeId} {d : D} : bytesD P s' t u d = bytesD P s t u d := by cases d <;> simp only [bytesD, hH]
theorem stepPure_congr {P : Program} {s s' : St} (hH : s'.H = s.H) {op : Op} (h : ∀ x ∈ op.operands, s'.ev x = s.ev x) : stepPure P s' op = stepPure P s op := by
  cases op <;> simp only [Op.operands] at h <;> simp only [stepPure]
  case call c =>
    obtain ⟨callee, args, argTypes⟩ := c
    have ha : ∀ x ∈ args.toList, s'.ev x = s.ev x := fun x hx => h x (by simp [Call.operands]; exact .inr (by simpa using hx))
    cases callee <;> simp only
    case builtin b =>
      cases b <;> simp only
      all_goals
        generalize args.toList = l at ha
        match l, ha with
        | [], _ => rfl
        | [x], ha => cases argTypes.toList with
          | nil => rfl
          | cons t ts => cases ts with
            | nil => simp only [ha x (by simp)]
            | cons => rfl
        | _ :: _ :: _, _ => rfl
  case makeFunc f first caps =>
    cases f <;> simp only
    rw [ev_list fun x hx => h x (by simp; exact .inl (by simpa using hx)), ev_list fun x hx => h x (by simp; exact .inr (by simpa using hx))]
  all_goals (first | rfl | (simp_all [loadD_congr hH]; done))
theorem parts_congr {s s' : St} : ∀ {l : List (Nat × Operand)}, (∀ x ∈ l.map (·.2), s'.ev x = s.ev x) → l.map (fun x => (x.1, s'.ev x.2)) = l.map (fun x => (x.1, s.ev x.2)) := fun h =>
  List.map_congr_left fun p hp => by rw [h p.2 (List.mem_map_of_mem hp)]
theorem stepP_congr {P : Program} {s s' : St} (hH : s'.H = s.H) {op : Op} (h : ∀ x ∈ op.operands, s'.ev x = s.ev x) : stepP P s' op = stepP P s op := by
  cases op
  case build t ps => simp only [stepP]; rw [parts_congr fun x hx => h x (by simpa [Op.operands] using hx)]
  case convert src dst x => (have e := stepPure_congr (P := P) hH (op := .convert src dst x) h; simp only [stepP, e]; simp only [Op.operands] at h; rw [h x (by simp), bytesD_congr hH])
  case lookup t x k ok => simp only [Op.operands] at h; simp_all [stepP, lookupD_congr hH]
  case slice t x lo hi mx => simp only [Op.operands] at h; cases lo <;> cases hi <;> cases mx <;> simp_all [stepP]
  case call c =>
    have hp := stepPure_congr (P := P) hH h
    obtain ⟨callee, args, argTypes⟩ := c
    have ha : ∀ x ∈ args.toList, s'.ev x = s.ev x := fun x hx => h x (by simp [Op.operands, Call.operands]; exact .inr (by simpa using hx))
    simp only [stepP, hp]
    generalize args.toList = l at ha
    match callee, l, ha with
    | .builtin b, [x, y], ha => cases b <;> simp only [ha x (by simp), ha y (by simp)]
    | .builtin b, [], ha => cases b <;> rfl
    | .builtin b, [_], ha => cases b <;> rfl
    | .builtin b, _ :: _ :: _ :: _, ha => cases b <;> rfl
    | .value _, _, _ => rfl
    | .invoke _ _, _, _ => rfl
  all_goals exact stepPure_congr (P := P) hH h
theorem yieldP_congr {P : Program} {s s' : St} (hH : s'.H = s.H) (hT : s'.T = s.T) {op : Op} {d : D} (h : ∀ x ∈ op.operands, s'.ev x = s.ev x) (k : yieldP P s op d) : yieldP P s' op d := by
  have hp := stepP_congr (P := P) hH h
  cases op
  case call c =>
    obtain ⟨callee, args, argTypes⟩ := c
    cases callee
    case value f =>
      have ha : ∀ x ∈ args.toList, s'.ev x = s.ev x := fun x hx => h x (by simp [Op.operands, Call.operands]; exact .inr (by simpa using hx))
      have hf : s'.ev f = s.ev f := h f (by simp [Op.operands, Call.operands])
      simp only [yieldP] at k ⊢
      rw [hf, ev_list ha, hH, hT]
      exact k
    all_goals (simp only [yieldP] at k ⊢; rw [hp]; exact k)
  all_goals (simp only [yieldP] at k ⊢; rw [hp]; exact k)
theorem yieldG_put {P : Program} {ops : Array Oper} {s : St} {o : Oper} {d : D} {dst : Option Nat} {e : D} (h : ∀ t, dst = some t → t ∉ o.looksAt ops) :
    (yieldG P ops s o d → yieldG P ops (s.put dst e) o d) ∧ (yieldG P ops (s.put dst e) o d → yieldG P ops s o d) := by
  have hev : ∀ x ∈ o.op.operands, (s.put dst e).ev x = s.ev x := fun x hx => put_ev fun t ht hxt => h t ht (by
    subst hxt; exact List.mem_append_left _ (List.mem_filterMap.2 ⟨.tmp t, by simpa using hx, rfl⟩))
  have y1 : yieldP P s o.op d → yieldP P (s.put dst e) o.op d := yieldP_congr put_H put_T hev
  have y2 : yieldP P (s.put dst e) o.op d → yieldP P s o.op d := yieldP_congr put_H.symm put_T.symm fun x hx => (hev x hx).symm
  unfold yieldG
  split
  · exact ⟨y1, y2⟩
  · rename_i j want hg
    have hgd : guardD (dsts ops.toList) (s.put dst e) j = guardD (dsts ops.toList) s j := by
      unfold guardD
      have hds : (dsts ops.toList)[j]? = (ops[j]?).map (·.dst) := by simp [dsts]
      rw [hds, put_nt]
      cases hj : ops[j]? with
      | none => rfl
      | some oj =>
        cases ht : oj.dst with
        | none => simp [ht]
        | some t =>
          simp only [Option.map_some, ht]
          split
          · exact put_ev (x := .tmp t) fun u hu k => by
              cases k
              exact h t hu (by simp [Oper.looksAt, hg, hj, ht])
          · rfl
    rw [hgd]
    unfold guardK
    split
    · split
      · exact ⟨y1, y2⟩
      · exact ⟨id, id⟩
    · exact ⟨id, id⟩
    · exact ⟨id, id⟩

/-- An operation that may come up now may be taken first, if what has not come up and does not wait for it is apart from it. -/
theorem anyD_first {P : Program} {md : Region.Mode} {ops : Array Oper} {K : St → Prop} {i : Nat} {oi : Oper} {d : D} (hi : ops[i]? = some oi) : ∀ (fuel : Nat) (listed : Array Bool) (s : St),
    (∀ j oj, ops[j]? = some oj → j ≠ i → listed.getD j true = false → (∀ e ∈ oj.after, Region.binds md e = true → e.on ≠ i) → oi.apart ops oj = true) →
    i ∈ Region.ready md ops listed → yieldG P ops s oi d → anyD P md ops K fuel (listed.setIfInBounds i true) (s.put oi.dst d) → anyD P md ops K (fuel + 1) listed s
  | 0, listed, s, _, hr, hy, H => by
    refine ⟨fun e => (by rw [e] at hr; cases hr), fun j hj => ?_⟩
    by_cases hji : j = i
    · subst hji; exact ⟨oi, hi, d, hy, H⟩
    · have := ready_mono hj hji; rw [H.1] at this; cases this
  | fuel + 1, listed, s, hfree, hr, hy, H => by
    refine ⟨fun e => (by rw [e] at hr; cases hr), fun j hj => ?_⟩
    by_cases hji : j = i
    · subst hji; exact ⟨oi, hi, d, hy, H⟩
    obtain ⟨oj', hoj', e, hye, hn⟩ := H.2 j (ready_mono hj hji)
    obtain ⟨hjun, oj, hoj, hall⟩ := mem_ready.1 hj
    obtain rfl : oj = oj' := Option.some.inj (hoj.symm.trans hoj')
    have hnot : ∀ k ∈ oj.after, Region.binds md k = true → k.on ≠ i := fun k hk hb heq => by
      have h1 := hall k hk hb
      have h0 := (mem_ready.1 hr).1
      rw [heq] at h1
      by_cases h' : i < listed.size
      · simp [h'] at h0 h1; rw [h0] at h1; cases h1
      · simp [Array.getElem?_eq_none (by omega : listed.size ≤ i)] at h1
    obtain ⟨a1, a2, a3⟩ := Oper.apart_spec (hfree j oj hoj hji hjun hnot)
    refine ⟨oj, hoj, e, (yieldG_put a1).2 hye, anyD_first hi fuel (listed.setIfInBounds j true) _ (fun k ok hk hki hun hno => ?_) (ready_mono hr (Ne.symm hji)) ((yieldG_put a3).1 hy) ?_⟩
    · refine hfree k ok hk hki ?_ hno
      by_cases hjk : j = k
      · subst hjk; exact hjun
      · rw [getD_set_ne true hjk] at hun; exact hun
    · rw [Array.setIfInBounds_comm _ _ hji, ← put_comm s d e a2]
      exact hn
/-- The walk in the text's order. -/
def lexD (P : Program) (ops : Array Oper) (K : St → Prop) : List Oper → St → Prop
  | [], s => K s
  | o :: l, s => ∃ d, yieldG P ops s o d ∧ lexD P ops K l (s.put o.dst d)
theorem anyD_lex {P : Program} {md : Region.Mode} {ops : Array Oper} {K : St → Prop} : ∀ (l : List Oper) (k : Nat) (listed : Array Bool) (s : St), (∀ j, l[j]? = ops[k + j]?) →
    Region.lexFrom md ops l.length k listed = true → lexD P ops K l s → anyD P md ops K l.length listed s
  | [], _, _, _, _, hB, h => ⟨by simpa [Region.lexFrom] using hB, h⟩
  | o :: l, k, listed, s, hl, hB, h => by
    have h0 : ops[k]? = some o := by simpa using (hl 0).symm
    simp only [List.length_cons, Region.lexFrom, Bool.and_eq_true] at hB
    obtain ⟨⟨hr, hf⟩, hB'⟩ := hB
    obtain ⟨d, hy, hK⟩ := h
    refine anyD_first h0 l.length listed s (Region.free_spec h0 hf) (by simpa using hr) hy (anyD_lex l (k + 1) _ _ (fun j => ?_) hB' hK)
    have := hl (j + 1)
    simpa [Nat.add_assoc, Nat.add_comm 1 j] using this
theorem vcOpQ_yield {P : Program} {s : St} {op : Op} {dst : Option Nat} {K : St → Prop} (h : vcOpQ P op dst K s) : ∃ d, yieldP P s op d ∧ K (s.put dst d) := by
  have put : putK s dst K (stepP P s op) → ∃ d, stepP P s op = some d ∧ K (s.put dst d) := fun h => by
    cases hs : stepP P s op with
    | none => rw [hs] at h; exact h.elim
    | some d => rw [hs] at h; exact ⟨d, rfl, h⟩
  cases op
  case call c =>
    obtain ⟨callee, args, argTypes⟩ := c
    cases callee
    case value f =>
      simp only [vcOpQ, callQ] at h
      simp only [yieldP]
      split at h
      · exact h
      · exact h.elim
    all_goals exact put h
  all_goals exact put h
theorem lexD_of_vc {P : Program} {ops : Array Oper} {K : St → Prop} : ∀ (l : List Oper) {s : St}, vcOpsQ P (dsts ops.toList) l K s → lexD P ops K l s
  | [], s, h => h
  | o :: l, s, h => by
    simp only [vcOpsQ] at h
    simp only [lexD, yieldG]
    split
    · rename_i hg
      simp only [hg] at h
      obtain ⟨d, h1, h2⟩ := vcOpQ_yield h
      exact ⟨d, h1, lexD_of_vc l h2⟩
    · rename_i j want hg
      simp only [hg] at h
      unfold guardK at h ⊢
      split at h
      · split at h
        · rename_i hb
          obtain ⟨d, h1, h2⟩ := vcOpQ_yield h
          exact ⟨d, by rw [if_pos hb]; exact h1, lexD_of_vc l h2⟩
        · rename_i hb
          exact ⟨.sc undef, by rw [if_neg hb], lexD_of_vc l h⟩
      · exact ⟨.sc undef, rfl, lexD_of_vc l h⟩
      · exact h.elim

/-! #### Drawn regions with memory: each order like the text's -/
def anyM (P : Program) (R : Nat → Bool × D) (mu : List Nat) (nw : Nw) (md : Region.Mode) (ops : Array Oper) (K : St → Prop) : Nat → Array Bool → St → Prop
  | 0, listed, s => Region.ready md ops listed = [] ∧ K s
  | fuel + 1, listed, s => (Region.ready md ops listed = [] → K s) ∧
    ∀ i ∈ Region.ready md ops listed, ∃ o, ops[i]? = some o ∧ vcOpM P R mu nw o.op o.dst (anyM P R mu nw md ops K fuel (listed.setIfInBounds i true)) s

theorem detK_mono {s : St} {dst : Option Nat} {K K' : St → Prop} (hK : ∀ s, K s → K' s) : ∀ {x}, detK s dst K x → detK s dst K' x
  | some _, h => ⟨h.1, hK _ h.2⟩
  | none, h => h
theorem callM_mono {P : Program} {R : Nat → Bool × D} {s : St} {f : D} {args : List D} {dst : Option Nat} {K K' : St → Prop} (hK : ∀ s, K s → K' s) (h : callM P R s f args dst K) : callM P R s f args dst K' := by
  unfold callM at *
  split at h
  · obtain ⟨h1, h2⟩ := h
    refine ⟨h1, ?_⟩
    split at h2
    · rename_i hR
      rw [if_pos hR]
      exact ⟨h2.1, h2.2.1, fun e T k => hK _ (h2.2.2 e T k)⟩
    · rename_i hR
      rw [if_neg hR]
      exact ⟨h2.1, hK _ h2.2⟩
  · exact h
theorem vcOpM_mono {P : Program} {R : Nat → Bool × D} {mu : List Nat} {nw : Nw} {op : Op} {dst : Option Nat} {K K' : St → Prop} (hK : ∀ s, K s → K' s) {s : St} (h : vcOpM P R mu nw op dst K s) : vcOpM P R mu nw op dst K' s := by
  unfold vcOpM at *
  split at h
  · split at h
    · exact callM_mono hK h
    · exact detK_mono hK h
  · exact detK_mono hK h
theorem vcOpM_false {P : Program} {R : Nat → Bool × D} {mu : List Nat} {nw : Nw} {op : Op} {dst : Option Nat} {s : St} (h : vcOpM P R mu nw op dst (fun _ => False) s) : False := by
  have det : ∀ {x}, detK s dst (fun _ => False) x → False := fun {x} h => by
    cases x with
    | none => exact h
    | some q => exact h.2
  unfold vcOpM at h
  split at h
  · split at h
    · unfold callM at h
      split at h
      · obtain ⟨_, h⟩ := h
        split at h
        · obtain ⟨_, ⟨e, T, h0⟩, h⟩ := h
          exact h e T h0
        · exact h.2
      · exact h
    · exact det h
  · exact det h
theorem stepMem_shape {P : Program} {mu : List Nat} {s : St} {t : Nat} {op : Op} {p : Prop} {s1 : St} {d : D} (h : stepMem P mu s t op = some (p, s1, d)) : { s with H := s1.H, n := s1.n } = s1 := by
  unfold stepMem at h
  repeat' split at h
  all_goals first
    | (cases h; done)
    | (cases h; rfl)
theorem stepStore_shape {P : Program} {s : St} {op : Op} {p : Prop} {s1 : St} (h : stepStore P s op = some (p, s1)) : { s with H := s1.H, n := s1.n } = s1 := by
  unfold stepStore at h
  repeat' split at h
  all_goals first
    | (cases h; done)
    | (cases h; rfl)
    | (unfold putMap at h; split at h <;> first | (cases h; done) | (cases h; rfl))
theorem vcOpM_vcOp {P : Program} {R : Nat → Bool × D} {mu : List Nat} {nw : Nw} {op : Op} {dst : Option Nat} {K : St → Prop} {s : St} (h : vcOpM P R mu nw op dst K s) : vcOp P mu op dst K s := by
  have put : ∀ {x : Option D} {p : D → Prop}, detK s dst K (x.map fun d => (p d, s.H, s.n, d)) → putK s dst K x := fun {x p} h => by
    cases x with
    | none => exact h
    | some d => exact h.2
  have mem : ∀ {t : Nat} {o : Op}, detK s (some t) K (memC (stepMem P mu s t o)) → memK t K (stepMem P mu s t o) := fun {t o} h => by
    cases hs : stepMem P mu s t o with
    | none => rw [hs] at h; exact h
    | some q =>
      rw [hs] at h
      obtain ⟨p, s1, d⟩ := q
      have e := stepMem_shape hs
      simp only [memC, detK] at h
      rw [e] at h
      exact h
  cases op
  case call c =>
    obtain ⟨callee, args, argTypes⟩ := c
    cases callee
    case value f =>
      simp only [vcOpM, callM] at h
      simp only [vcOp, callK]
      split at h
      · rename_i g' first caps t hf
        rw [hf]
        obtain ⟨h1, h2⟩ := h
        split at h2
        · obtain ⟨h2, _, h4⟩ := h2
          exact .inr <| .inl ⟨_, [], s.T, [], _, by simp, rfl, fun i d e hd he => by rw [hd] at he; cases he; exact .fz (.cl d (h1 i d hd)), h2, fun e T k => ⟨s.T ++ T, by simp [upT], h4 e T k⟩⟩
        · exact .inl ⟨_, .inl ⟨h2.1, h1⟩, h2.2⟩
      · exact h.elim
    case invoke => simp only [vcOpM, detC] at h; simp only [vcOp]; exact put (p := fun _ => True) h
    case builtin b =>
      cases b
      case append =>
        cases dst with
        | none => exact h
        | some t =>
          simp only [vcOpM, detC] at h
          simp only [vcOp]
          cases hs : stepMem P mu s t (.call ⟨.builtin .append, args, argTypes⟩) with
          | none => rw [hs] at h; exact h
          | some q =>
            rw [hs] at h
            obtain ⟨p, s1, d⟩ := q
            have e := stepMem_shape hs
            simp only [appC, detK] at h
            rw [e] at h
            exact ⟨h.1.1, h.2⟩
      all_goals (simp only [vcOpM, detC] at h; simp only [vcOp]; exact put (p := fun _ => True) h)
  case load => simp only [vcOpM, detC] at h; simp only [vcOp]; exact put (p := fun _ => okT nw.nw _ _ ∧ cpO nw.cp _ _) h
  case store ty x y =>
    simp only [vcOpM, detC] at h
    simp only [vcOp]
    cases hs : stepStore P s (.store ty x y) with
    | none => rw [hs] at h; exact h
    | some q =>
      rw [hs] at h
      obtain ⟨p, s1⟩ := q
      have e := stepStore_shape hs
      simp only [Option.map_some, detK] at h
      rw [e] at h
      exact ⟨h.1.1, h.2⟩
  case buildSlice =>
    cases dst with
    | none => exact h
    | some t => exact mem h
  case alloc =>
    cases dst with
    | none => exact h
    | some t => exact mem h
  case lookup => exact h.elim
  case convert => exact h.elim
  case box => exact h.elim
  case makeMap => exact h.elim
  case makeSlice => exact h.elim
  case mapUpdate => exact h.elim
  all_goals (simp only [vcOpM, detC] at h; simp only [vcOp]; exact put (p := fun _ => True) h)

theorem cls_call (c : Call) : clsM (.call c) = 0 ∨ clsM (.call c) = 2 ∨ clsM (.call c) = 4 := by
  obtain ⟨callee, args, argTypes⟩ := c
  cases callee
  case value => exact .inr (.inl rfl)
  case invoke => exact .inl rfl
  case builtin b => cases b <;> first | exact .inl rfl | exact .inr (.inr rfl)
theorem stepP_congrA {P : Program} {s s' : St} {op : Op} (hc : clsM op = 0) (h : ∀ x ∈ op.operands, s'.ev x = s.ev x) : stepP P s' op = stepP P s op := by
  have := stepP_congr (P := P) (s := s) (s' := { s with env := s'.env }) rfl (op := op) (by
    intro x hx
    have := h x hx
    cases x <;> first | exact this | rfl)
  have e2 : ∀ (H : Nat → Option Ob) (n : Nat → Nat) (nt : Nat) (T : List TE), stepP P { s' with H, n, nt, T } op = stepP P s' op := by
    intro H n nt T
    have hev : ({ s' with H, n, nt, T } : St).ev = s'.ev := by funext x; cases x <;> rfl
    cases op <;> simp only [clsM] at hc <;> first | (exact absurd hc (by decide)) | rfl | skip
    case makeFunc f first caps => cases f <;> simp only [stepP, stepPure, hev]
  rw [← this, ← e2 s.H s.n s.nt s.T]

theorem newsD_congr {s s' : St} (hH : s'.H = s.H) {e : TypeId} {sz : Nat} {d : D} : newsD s' e sz d = newsD s e sz d := by
  cases d <;> simp only [newsD, hH]

theorem newOb_H {s s' : St} (hH : s'.H = s.H) (hn : s'.n = s.n) (t : Nat) (e : TypeId) (sz : Nat) (cs : List D) : (newOb s' t e sz cs).H = (newOb s t e sz cs).H ∧ (newOb s' t e sz cs).n = (newOb s t e sz cs).n := by simp [newOb, hH, hn]
theorem movOb_H {s s' : St} (hH : s'.H = s.H) (hn : s'.n = s.n) (t0 t : Nat) (e : TypeId) (sz : Nat) (cs : List D) : (movOb s' t0 t e sz cs).H = (movOb s t0 t e sz cs).H ∧ (movOb s' t0 t e sz cs).n = (movOb s t0 t e sz cs).n := by simp [movOb, hH, hn]
theorem okA_congr {nw : List Nat} {s s' : St} : ∀ {l : List Operand}, (∀ x ∈ l, s'.ev x = s.ev x) → okA nw s' l = okA nw s l
  | [], _ => rfl
  | x :: l, h => by simp only [okA]; rw [h x (by simp), okA_congr fun y hy => h y (by simp [hy])]
theorem detC_congr {P : Program} {mu : List Nat} {nw : Nw} {op : Op} {dst : Option Nat} {s s' : St} (hH : s'.H = s.H) (hn : s'.n = s.n) (h : ∀ x ∈ op.operands, s'.ev x = s.ev x) : detC P mu nw op dst s' = detC P mu nw op dst s := by
  have hp := stepP_congr (P := P) hH h
  cases op
  case load t x => simp only [detC, hp, hH, hn]; rw [h x (by simp [Op.operands])]
  case buildSlice ty l ps =>
    simp only [detC]
    cases dst with
    | none => rfl
    | some t =>
      simp only [stepMem]
      rw [parts_congr (s := s) (s' := s') fun x hx => h x (by simpa [Op.operands] using hx)]
      split
      · split
        · simp only [memC, newOb, hH, hn]
        · rfl
      · rfl
  case alloc ty =>
    simp only [detC]
    cases dst with
    | none => rfl
    | some t =>
      simp only [stepMem]
      split
      · simp only [memC, newOb, hH, hn]
      · rfl
  case store ty x y =>
    simp only [detC, stepStore]
    rw [h x (by simp [Op.operands]), h y (by simp [Op.operands]), hH]
    split
    · split
      · split
        · simp only [Option.map_some, hn]
        · rfl
      · rfl
    · rfl
  case call c =>
    obtain ⟨callee, args, argTypes⟩ := c
    cases callee
    case builtin b =>
      cases b
      case append =>
        simp only [detC]
        cases dst with
        | none => rfl
        | some t =>
          have ha : ∀ x ∈ args.toList, s'.ev x = s.ev x := fun x hx => h x (by simp [Op.operands, Call.operands]; simpa using hx)
          simp only [stepMem]
          rw [okA_congr ha]
          generalize args.toList = l at ha
          match l, argTypes.toList, ha with
          | [x, y], [ty, ty'], ha =>
            simp only
            rw [ha x (by simp), ha y (by simp), hH]
            cases elemInfo P ty with
            | none => rfl
            | some q =>
              obtain ⟨e, sz, by'⟩ := q
              simp only [newsD_congr hH]
              repeat' split
              all_goals first | rfl | (simp [appC, hH, hn]; done) | (simp [appC, newOb, hH, hn]; done) | (simp [appC, movOb, hH, hn]; done)
          | [], _, _ => rfl
          | [_], _, _ => rfl
          | _ :: _ :: _ :: _, _, _ => rfl
          | [_, _], [], _ => rfl
          | [_, _], [_], _ => rfl
          | [_, _], _ :: _ :: _ :: _, _ => rfl
      all_goals (simp only [detC, hp, hH, hn])
    case value => rfl
    case invoke => simp only [detC, hp, hH, hn]
  all_goals first
    | rfl
    | (simp only [detC, hp, hH, hn])

def updN (n : Nat → Nat) (t v : Nat) : Nat → Nat := fun i => if i = t then v else n i
theorem updN_same (n : Nat → Nat) (t v : Nat) : updN n t v t = v := by simp [updN]
theorem updN_ne (n : Nat → Nat) {t v i : Nat} (h : i ≠ t) : updN n t v i = n i := by simp [updN, h]
theorem upd_comm {α : Type} {f : Nat → Option α} {t t' : Nat} {x y : Option α} (h : t ≠ t') : upd (upd f t x) t' y = upd (upd f t' y) t x := by
  funext i; simp only [upd]
  by_cases h1 : i = t
  · by_cases h2 : i = t'
    · omega
    · simp [h1, h]
  · by_cases h2 : i = t'
    · simp [h2, Ne.symm h]
    · simp [h1, h2]
theorem updN_bump {n : Nat → Nat} {t t' v : Nat} (h : t ≠ t') : bump (updN n t' v) t = updN (bump n t) t' v := by
  funext i; simp only [bump, updN]
  by_cases h1 : i = t
  · subst h1; simp [h]
  · by_cases h2 : i = t'
    · subst h2; simp [h1]
    · simp [h1, h2]
theorem upd_self {α : Type} (f : Nat → Option α) (t : Nat) : f = upd f t (f t) := by
  funext i; simp only [upd]; split
  · rename_i h; rw [h]
  · rfl
theorem updN_self (n : Nat → Nat) (t : Nat) : n = updN n t (n t) := by
  funext i; simp only [updN]; split
  · rename_i h; rw [h]
  · rfl
theorem bump_updN (n : Nat → Nat) (t : Nat) : bump n t = updN n t (n t + 1) := by
  funext i; simp only [updN, bump]; split
  · rename_i h; rw [h]
  · rfl
theorem updN_bump_self (n : Nat → Nat) (t : Nat) : n = updN (bump n t) t (n t) := by
  funext i; simp only [updN, bump]; split
  · rename_i h; rw [h]
  · rfl
theorem upd_twice {α : Type} {f : Nat → Option α} {t : Nat} {x y : Option α} : upd (upd f t x) t y = upd f t y := by
  funext i; simp only [upd]; split <;> rfl

/-- What an operation comes to does not hang on a slot that it does not touch. -/
theorem detC_frame {P : Program} {mu : List Nat} {nw : Nw} {op : Op} {dst : Option Nat} {s s' : St} {tj v : Nat} {z : Option Ob} (hc : clsM op ≠ 2) (hd : dst ≠ some tj) (hj : tj ∈ nw.nw) (ho : Operand.tmp tj ∉ op.operands)
    (h : ∀ x ∈ op.operands, s'.ev x = s.ev x) (hH : s'.H = upd s.H tj z) (hn : s'.n = updN s.n tj v) {p : Prop} {H : Nat → Option Ob} {n : Nat → Nat} {d : D} (hdet : detC P mu nw op dst s = some (p, H, n, d)) (hp : p) :
    H tj = s.H tj ∧ n tj = s.n tj ∧ ∃ p' : Prop, p' ∧ detC P mu nw op dst s' = some (p', upd H tj z, updN n tj v, d) := by
  have pure_ : clsM op = 0 → detC P mu nw op dst s = (stepP P s op).map (fun d => (True, s.H, s.n, d)) → detC P mu nw op dst s' = (stepP P s' op).map (fun d => (True, s'.H, s'.n, d)) →
      H tj = s.H tj ∧ n tj = s.n tj ∧ ∃ p' : Prop, p' ∧ detC P mu nw op dst s' = some (p', upd H tj z, updN n tj v, d) := fun hc e1 e2 => by
    rw [e1] at hdet
    rw [e2, stepP_congrA hc h]
    cases hs : stepP P s op with
    | none => rw [hs] at hdet; cases hdet
    | some y =>
      rw [hs] at hdet
      simp only [Option.map_some, Option.some.injEq, Prod.mk.injEq] at hdet
      obtain ⟨rfl, rfl, rfl, rfl⟩ := hdet
      exact ⟨rfl, rfl, True, trivial, by rw [hH, hn]; rfl⟩
  have ne : ∀ {x : Operand} {sl : Nat}, x ∈ op.operands → (sl ∉ nw.nw ∨ x = .tmp sl) → sl ≠ tj := fun {x sl} hx k e => by
    subst e
    rcases k with k | k
    · exact k hj
    · subst k; exact ho hx
  have Hne : ∀ {sl : Nat}, sl ≠ tj → s'.H sl = s.H sl := fun {sl} k => by rw [hH, upd_ne _ _ k]
  have Nne : ∀ {sl : Nat}, sl ≠ tj → s'.n sl = s.n sl := fun {sl} k => by rw [hn, updN_ne _ k]
  have newOb_f : ∀ {t : Nat} (e : TypeId) (sz : Nat) (cs : List D), t ≠ tj → (newOb s t e sz cs).H tj = s.H tj ∧ (newOb s t e sz cs).n tj = s.n tj ∧ (newOb s' t e sz cs).H = upd (newOb s t e sz cs).H tj z ∧ (newOb s' t e sz cs).n = updN (newOb s t e sz cs).n tj v := fun {t} e sz cs k => by
    refine ⟨?_, ?_, ?_, ?_⟩
    · simp only [newOb]; rw [upd_ne _ _ (Ne.symm k), upd_ne _ _ (Ne.symm k)]
    · simp only [newOb]; rw [bump_ne _ (Ne.symm k)]
    · simp only [newOb, hH, Nne k]; rw [upd_comm (Ne.symm k), upd_comm (Ne.symm k)]
    · simp only [newOb, hn]; exact updN_bump k
  have movOb_f : ∀ {t0 t : Nat} (e : TypeId) (sz : Nat) (cs : List D), t0 ≠ tj → t ≠ tj → (movOb s t0 t e sz cs).H tj = s.H tj ∧ (movOb s t0 t e sz cs).n tj = s.n tj ∧ (movOb s' t0 t e sz cs).H = upd (movOb s t0 t e sz cs).H tj z ∧ (movOb s' t0 t e sz cs).n = updN (movOb s t0 t e sz cs).n tj v := fun {t0 t} e sz cs k0 k => by
    refine ⟨?_, ?_, ?_, ?_⟩
    · simp only [movOb]; rw [upd_ne _ _ (Ne.symm k), upd_ne _ _ (Ne.symm k0)]
    · simp only [movOb]; rw [bump_ne _ (Ne.symm k)]
    · simp only [movOb, hH, Nne k]; rw [upd_comm (Ne.symm k0), upd_comm (Ne.symm k)]
    · simp only [movOb, hn]; exact updN_bump k
  have news_f : ∀ {x : Operand} {e : TypeId} {sz : Nat}, x ∈ op.operands → okT nw.nw x (s.ev x) → newsD s' e sz (s.ev x) = newsD s e sz (s.ev x) := fun {x e sz} hx hok => by
    generalize s.ev x = dx at hok
    cases dx with
    | ms sl gn m => simp only [newsD]; rw [Hne (ne hx hok)]
    | sc v => cases v with
      | slice a n c => cases a <;> cases n <;> rfl
      | _ => rfl
    | _ => rfl
  have fin : ∀ {x : Option (Prop × St × D)} {y : Option (Prop × St × D)}, memC x = some (p, H, n, d) → (∀ p1 s1 d1, x = some (p1, s1, d1) → p1 → s1.H tj = s.H tj ∧ s1.n tj = s.n tj ∧ ∃ p2 s2, p2 ∧ y = some (p2, s2, d1) ∧ s2.H = upd s1.H tj z ∧ s2.n = updN s1.n tj v) →
      H tj = s.H tj ∧ n tj = s.n tj ∧ ∃ p' : Prop, p' ∧ memC y = some (p', upd H tj z, updN n tj v, d) := fun {x y} hx k => by
    cases x with
    | none => cases hx
    | some q =>
      obtain ⟨p1, s1, d1⟩ := q
      simp only [memC, Option.some.injEq, Prod.mk.injEq] at hx
      obtain ⟨rfl, rfl, rfl, rfl⟩ := hx
      obtain ⟨a1, a2, p2, s2, b1, b2, b3, b4⟩ := k _ _ _ rfl hp
      exact ⟨a1, a2, p2, b1, by rw [b2]; simp only [memC, b3, b4]⟩
  cases op
  case load t x =>
    simp only [detC] at hdet ⊢
    have hx := h x (by simp [Op.operands])
    cases hl : stepP P s (.load t x) with
    | none => rw [hl] at hdet; cases hdet
    | some y =>
      rw [hl] at hdet
      simp only [Option.map_some, Option.some.injEq, Prod.mk.injEq] at hdet
      obtain ⟨rfl, rfl, rfl, rfl⟩ := hdet
      have hl' : stepP P s' (.load t x) = some y := by
        simp only [stepP, stepPure] at hl ⊢
        rw [hx, ← hl]
        generalize s.ev x = dx at hp
        cases dx <;> try rfl
        simp only [loadD]
        rw [Hne (ne (by simp [Op.operands]) hp.1)]
      rw [hl', hx]
      exact ⟨rfl, rfl, _, hp, by rw [hH, hn]; rfl⟩
  case buildSlice ty l ps =>
    simp only [detC] at hdet ⊢
    cases dst with
    | none => cases hdet
    | some t =>
      refine fin hdet fun p1 s1 d1 hs hp1 => ?_
      simp only [stepMem] at hs ⊢
      rw [parts_congr (s := s) (s' := s') fun x hx => h x (by simpa [Op.operands] using hx)]
      have k : t ≠ tj := fun e => hd (by rw [e])
      split at hs
      · split at hs
        · cases hs
          obtain ⟨q1, q2, q3, q4⟩ := newOb_f (t := t) _ _ _ k
          exact ⟨q1, q2, _, _, hp1, by rw [Nne k], q3, q4⟩
        · cases hs
      · cases hs
  case alloc ty =>
    simp only [detC] at hdet ⊢
    cases dst with
    | none => cases hdet
    | some t =>
      refine fin hdet fun p1 s1 d1 hs hp1 => ?_
      simp only [stepMem] at hs ⊢
      have k : t ≠ tj := fun e => hd (by rw [e])
      split at hs
      · cases hs
        obtain ⟨q1, q2, q3, q4⟩ := newOb_f (t := t) _ _ _ k
        exact ⟨q1, q2, _, _, hp1, by rw [Nne k], q3, q4⟩
      · cases hs
  case store ty x y =>
    simp only [detC, stepStore] at hdet ⊢
    have hxo : x ∈ (Op.store ty x y).operands := by simp [Op.operands]
    rw [h x hxo, h y (by simp [Op.operands])]
    generalize hdx : s.ev x = dx at hdet
    generalize cellsD (s.ev y) = cy at hdet
    generalize szOf P ty = zt at hdet
    cases dx with
    | rf sl gn off =>
      cases cy with
      | none => cases hdet
      | some cs => cases zt with
        | none => cases hdet
        | some m =>
          simp only at hdet ⊢
          have okx : okT nw.nw x (.rf sl gn off) := by
            cases hob : s.H sl with
            | none => rw [hob] at hdet; cases hdet
            | some ob =>
              rw [hob] at hdet
              simp only at hdet
              split at hdet
              · simp only [Option.map_some, Option.some.injEq, Prod.mk.injEq] at hdet
                rw [← hdet.1] at hp
                exact hp.2
              · cases hdet
          have k := ne hxo okx
          rw [Hne k]
          cases hob : s.H sl with
          | none => rw [hob] at hdet; cases hdet
          | some ob =>
            rw [hob] at hdet
            simp only at hdet ⊢
            split at hdet
            · rename_i hg
              simp only [Option.map_some, Option.some.injEq, Prod.mk.injEq] at hdet
              obtain ⟨rfl, rfl, rfl, rfl⟩ := hdet
              refine ⟨upd_ne _ _ (Ne.symm k), rfl, _, hp, ?_⟩
              rw [if_pos hg, hH, hn, upd_comm (Ne.symm k)]
              rfl
            · cases hdet
    | _ => cases hdet
  case call c =>
    obtain ⟨callee, args, argTypes⟩ := c
    cases callee
    case value => exact absurd rfl hc
    case invoke => exact pure_ rfl rfl rfl
    case builtin b =>
      cases b
      case append =>
        simp only [detC] at hdet ⊢
        cases dst with
        | none => cases hdet
        | some t =>
          have k : t ≠ tj := fun e => hd (by rw [e])
          have ha : ∀ x ∈ args.toList, x ∈ (Op.call ⟨.builtin .append, args, argTypes⟩).operands := fun x hx => by simp [Op.operands, Call.operands]; simpa using hx
          have hok : okA nw.nw s' args.toList = okA nw.nw s args.toList := okA_congr fun x hx => h x (ha x hx)
          simp only [hok] at hdet ⊢
          cases hs : stepMem P mu s t (.call ⟨.builtin .append, args, argTypes⟩) with
          | none => rw [hs] at hdet; cases hdet
          | some q =>
            obtain ⟨p1, s1, d1⟩ := q
            rw [hs] at hdet
            simp only [appC, Option.some.injEq, Prod.mk.injEq] at hdet
            obtain ⟨rfl, rfl, rfl, rfl⟩ := hdet
            obtain ⟨hp1, hq⟩ := hp
            have goal : s1.H tj = s.H tj ∧ s1.n tj = s.n tj ∧ ∃ (p2 : Prop) (s2 : St), p2 ∧ stepMem P mu s' t (.call ⟨.builtin .append, args, argTypes⟩) = some (p2, s2, d1) ∧ s2.H = upd s1.H tj z ∧ s2.n = updN s1.n tj v := by
              simp only [stepMem] at hs ⊢
              have hev : ∀ x ∈ args.toList, s'.ev x = s.ev x := fun x hx => h x (ha x hx)
              revert hs
              revert hev
              revert hq
              revert ha
              generalize args.toList = l
              generalize argTypes.toList = tl
              intro ha hq hev hs
              match l, tl with
              | [x, y], [ty, ty'] =>
                simp only at hs ⊢
                obtain ⟨okx, oky, _⟩ := hq
                have nf := fun {e sz} => news_f (x := y) (e := e) (sz := sz) (ha y (by simp)) oky
                rw [hev x (by simp), hev y (by simp)]
                have nx : ∀ {sl gn len}, s.ev x = .ms sl gn len → sl ≠ tj := fun {sl gn len} e => ne (ha x (by simp)) (by rw [e] at okx; exact okx)
                cases hi : elemInfo P ty with
                | none => rw [hi] at hs; cases hs
                | some q =>
                  obtain ⟨e, sz, by'⟩ := q
                  rw [hi] at hs
                  simp only at hs ⊢
                  split at hs
                  · rename_i hty
                    rw [if_pos hty]
                    generalize s.ev y = dy at hs nf
                    generalize hdx : s.ev x = dx at hs nx
                    split at hs
                    · rename_i sl gn len
                      have k0 := nx rfl
                      simp only [Hne k0]
                      split at hs
                      · split at hs
                        · rename_i hcnd
                          cases hs
                          exact ⟨rfl, rfl, _, _, hp1, by rw [if_pos hcnd], hH, hn⟩
                        · cases hs
                      · cases hs
                    · cases hs
                      exact ⟨rfl, rfl, _, _, hp1, rfl, hH, hn⟩
                    · cases hs
                      exact ⟨rfl, rfl, _, _, hp1, rfl, hH, hn⟩
                    · rename_i hne hne2
                      split at hs
                      · rename_i m cs hm
                        cases hs
                        obtain ⟨q1, q2, q3, q4⟩ := newOb_f (t := t) e sz cs k
                        refine ⟨q1, q2, _, _, hp1, ?_, q3, q4⟩
                        have hm' := nf.trans hm
                        split
                        all_goals first
                          | (exact (hne rfl).elim)
                          | (exact (hne2 _ _ rfl).elim)
                          | (simp only [hm', Nne k]; done)
                          | (simp_all; done)
                      · cases hs
                    · rename_i sl gn len hne
                      have k0 := nx rfl
                      split at hs
                      · rename_i ob m cs hob hm
                        split at hs
                        · rename_i hcnd
                          cases hs
                          obtain ⟨q1, q2, q3, q4⟩ := movOb_f (t0 := sl) (t := t) e sz (ob.cells ++ cs) k0 k
                          refine ⟨q1, q2, _, _, hp1, ?_, q3, q4⟩
                          have hm' := nf.trans hm
                          have hob' := (Hne k0).trans hob
                          split
                          all_goals first
                            | (exact (hne rfl).elim)
                            | (simp only [hm', hob', Nne k]; rw [if_pos hcnd]; done)
                            | (simp_all; done)
                        · cases hs
                      · cases hs
                    · cases hs
                  · rename_i hty
                    rw [if_neg hty]
                    split at hs
                    · rename_i kI kk nn hit hdx hdy
                      cases hs
                      obtain ⟨q1, q2, q3, q4⟩ := newOb_f (t := t) e sz (List.replicate nn.toNat (zeroRow P e)).flatten k
                      refine ⟨q1, q2, _, _, hp1, ?_, q3, q4⟩
                      simp only [hit, hdx, hdy, Nne k]
                    · cases hs
              | [], _ => cases hs
              | [_], _ => cases hs
              | _ :: _ :: _ :: _, _ => cases hs
              | [_, _], [] => cases hs
              | [_, _], [_] => cases hs
              | [_, _], _ :: _ :: _ :: _ => cases hs
            obtain ⟨a1, a2, p2, s2, b1, b2, b3, b4⟩ := goal
            exact ⟨a1, a2, p2 ∧ okA nw.nw s args.toList, ⟨b1, hq⟩, by rw [b2]; simp only [appC, b3, b4]⟩
      all_goals exact pure_ rfl rfl rfl
  all_goals first
    | (cases hdet; done)
    | exact pure_ rfl rfl rfl
/-- What an operation that makes an object comes to. -/
theorem detC_news {P : Program} {mu : List Nat} {nw : Nw} {op : Op} {dst : Option Nat} {s : St} (hc : clsM op = 3) {p : Prop} {H : Nat → Option Ob} {n : Nat → Nat} {d : D} (h : detC P mu nw op dst s = some (p, H, n, d)) :
    ∃ t ob, dst = some t ∧ H = upd s.H t (some ob) ∧ n = bump s.n t ∧ ∀ s' : St, (∀ x ∈ op.operands, s'.ev x = s.ev x) → s'.n t = s.n t → detC P mu nw op dst s' = some (p, upd s'.H t (some ob), bump s'.n t, d) := by
  cases op <;> simp only [clsM] at hc <;> first | (exact absurd hc (by decide)) | skip
  case call c => have := cls_call c; simp only [clsM] at this; omega
  case buildSlice ty l ps =>
    simp only [detC] at h ⊢
    cases dst with
    | none => cases h
    | some t =>
      simp only [stepMem] at h ⊢
      split at h
      · split at h
        · rename_i e sz by' he cs hcs
          simp only [memC, Option.some.injEq, Prod.mk.injEq] at h
          obtain ⟨rfl, rfl, rfl, rfl⟩ := h
          refine ⟨t, _, rfl, by simp only [newOb]; rw [upd_twice], rfl, fun s' hev hn => ?_⟩
          rw [parts_congr (s := s) (s' := s') fun x hx => hev x (by simpa [Op.operands] using hx)]
          simp only [hcs, memC, newOb, hn]
          rw [upd_twice]
        · cases h
      · cases h
  case alloc ty =>
    simp only [detC] at h ⊢
    cases dst with
    | none => cases h
    | some t =>
      simp only [stepMem] at h ⊢
      split at h
      · rename_i cs hcs
        simp only [memC, Option.some.injEq, Prod.mk.injEq] at h
        obtain ⟨rfl, rfl, rfl, rfl⟩ := h
        refine ⟨t, _, rfl, by simp only [newOb]; rw [upd_twice], rfl, fun s' hev hn => ?_⟩
        simp only [hcs, memC, newOb, hn]
        rw [upd_twice]
      · cases h
theorem putH_put {s : St} {H : Nat → Option Ob} {n : Nat → Nat} {x : Option Nat} {d : D} : ({ s with H := H, n := n } : St).put x d = { s.put x d with H := H, n := n } := by
  cases x <;> simp only [St.put]; split <;> rfl
theorem put_n {s : St} {dst : Option Nat} {d : D} : (s.put dst d).n = s.n := by cases dst <;> simp only [St.put]; split <;> rfl
def pe (nt : Nat) (x : Option Nat) (d : D) (e : Nat → D) : Nat → D := match x with | some t => if t < nt then setE e t d else e | none => e
theorem put_pe {s : St} {x : Option Nat} {d : D} : s.put x d = { s with env := pe s.nt x d s.env } := by
  cases x <;> simp only [St.put, pe]; split <;> rfl
theorem pe_comm (nt : Nat) (e : Nat → D) {x y : Option Nat} (d d' : D) (h : ∀ t, x = some t → y ≠ some t) : pe nt y d' (pe nt x d e) = pe nt x d (pe nt y d' e) := by
  have := put_comm ⟨e, fun _ => none, noN, nt, []⟩ (x := x) (y := y) d d' h
  simp only [put_pe, St.mk.injEq] at this
  exact this.1
theorem putT_put {s : St} {T : List TE} {x : Option Nat} {d : D} : ({ s with T := T } : St).put x d = { s.put x d with T := T } := by
  cases x <;> simp only [St.put]; split <;> rfl

theorem looks_ops {ops : Array Oper} {o : Oper} {x : Operand} {t : Nat} (hx : x ∈ o.op.operands) (h : x = .tmp t) : t ∈ o.looksAt ops := by
  subst h; exact List.mem_append_left _ (List.mem_filterMap.2 ⟨.tmp t, by simpa using hx, rfl⟩)
theorem cls_val {op : Op} : clsM op = 2 → ∃ f args tys, op = .call ⟨.value f, args, tys⟩ := by
  intro h
  cases op <;> simp only [clsM] at h <;> first | (exact absurd h (by decide)) | skip
  rename_i c
  obtain ⟨callee, args, argTypes⟩ := c
  cases callee
  case value f => exact ⟨f, args, argTypes, rfl⟩
  case builtin b => cases b <;> exact absurd h (by simp)
  case invoke => exact absurd h (by simp)
theorem vcOpM_det {P : Program} {R : Nat → Bool × D} {mu : List Nat} {nw : Nw} {op : Op} {dst : Option Nat} {K : St → Prop} {s : St} (h : clsM op ≠ 2) : vcOpM P R mu nw op dst K s = detK s dst K (detC P mu nw op dst s) := by
  cases op <;> first | rfl | skip
  rename_i c
  obtain ⟨callee, args, argTypes⟩ := c
  cases callee <;> first | rfl | (exact absurd rfl h)

/-- The order in which trees are listed says nothing. -/
def PermC (K : St → Prop) : Prop := ∀ (s : St) (T : List TE), T.Perm s.T → K s → K { s with T := T }
theorem vcOpsM_mono {P : Program} {R : Nat → Bool × D} {mu : List Nat} {nw : Nw} {K K' : St → Prop} (hK : ∀ s, K s → K' s) : ∀ (l : List Oper) {s : St}, vcOpsM P R mu nw l K s → vcOpsM P R mu nw l K' s
  | [], _, h => hK _ h
  | _ :: rest, _, h => vcOpM_mono (fun _ h => vcOpsM_mono hK rest h) h
/-- A reader's outcome in another state. -/
theorem detC_reader {P : Program} {mu : List Nat} {nw : Nw} {op : Op} {dst : Option Nat} {s s' : St} (hc : clsM op = 0 ∨ clsM op = 1) (hHd : clsM op = 1 → s'.H = s.H ∨ ∃ t, dst = some t ∧ t ∈ nw.cp) (h : ∀ x ∈ op.operands, s'.ev x = s.ev x)
    {p : Prop} {H : Nat → Option Ob} {n : Nat → Nat} {d : D} (hd : detC P mu nw op dst s = some (p, H, n, d)) (hp : p) : H = s.H ∧ n = s.n ∧ ∃ p' : Prop, p' ∧ detC P mu nw op dst s' = some (p', s'.H, s'.n, d) := by
  have pure_ : stepP P s' op = stepP P s op → ∀ (q q' : Prop), q' → detC P mu nw op dst s = (stepP P s op).map (fun d => (q, s.H, s.n, d)) → detC P mu nw op dst s' = (stepP P s' op).map (fun d => (q', s'.H, s'.n, d)) →
      H = s.H ∧ n = s.n ∧ ∃ p' : Prop, p' ∧ detC P mu nw op dst s' = some (p', s'.H, s'.n, d) := fun hs q q' hq e1 e2 => by
    rw [e1] at hd
    rw [e2, hs]
    cases hs : stepP P s op with
    | none => rw [hs] at hd; cases hd
    | some y =>
      rw [hs] at hd
      simp only [Option.map_some, Option.some.injEq, Prod.mk.injEq] at hd
      obtain ⟨rfl, rfl, rfl, rfl⟩ := hd
      exact ⟨rfl, rfl, q', hq, rfl⟩
  rcases hc with hc | hc
  · have hs := stepP_congrA (P := P) (s := s) (s' := s') hc h
    cases op <;> simp only [clsM] at hc <;> first | (exact absurd hc (by decide)) | skip
    case call c =>
      obtain ⟨callee, args, argTypes⟩ := c
      cases callee
      case value => exact absurd hc (by simp)
      case invoke => exact pure_ hs True True trivial rfl rfl
      case builtin b =>
        cases b
        case append => exact absurd hc (by simp)
        all_goals exact pure_ hs True True trivial rfl rfl
    all_goals exact pure_ hs True True trivial rfl rfl
  · cases op <;> simp only [clsM] at hc <;> first | (exact absurd hc (by decide)) | skip
    case call c => have := cls_call c; simp only [clsM] at this; omega
    case load t x =>
      have hx := h x (by simp [Op.operands])
      have hq : okT nw.nw x (s.ev x) ∧ cpO nw.cp dst (s.ev x) := by
        simp only [detC] at hd
        cases hl : stepP P s (.load t x) with
        | none => rw [hl] at hd; cases hd
        | some y =>
          rw [hl] at hd
          simp only [Option.map_some, Option.some.injEq, Prod.mk.injEq] at hd
          rw [← hd.1] at hp; exact hp
      refine pure_ ?_ (okT nw.nw x (s.ev x) ∧ cpO nw.cp dst (s.ev x)) (okT nw.nw x (s'.ev x) ∧ cpO nw.cp dst (s'.ev x)) (by rw [hx]; exact hq) rfl rfl
      simp only [stepP, stepPure]
      rw [hx]
      rcases hHd rfl with k | ⟨t', rfl, k⟩
      · rw [loadD_congr k]
      · have hcp := hq.2 k
        generalize s.ev x = dx at hcp
        cases dx <;> first | rfl | exact hcp.elim
/-- What a call in a drawn region may answer. -/
theorem callM_iff {P : Program} {R : Nat → Bool × D} {s : St} {g : FuncId} {first caps args : List D} {t : Nat} {K : St → Prop} :
    callM P R s (.fn g first caps) args (some t) K ↔ ((∀ (i : Nat) (d : D), (first ++ args ++ caps)[i]? = some d → Cl d) ∧ (if (R t).1 then SpG P g (first ++ args ++ caps) [] [] (R t).2 else Sp P g (first ++ args ++ caps) (R t).2)) ∧
      (∃ e T, if (R t).1 then O3 (R t).2 e T else e = (R t).2 ∧ T = []) ∧ ∀ (e : D) (T : List TE), (if (R t).1 then O3 (R t).2 e T else e = (R t).2 ∧ T = []) → K ({ s with T := s.T ++ T }.put (some t) e) := by
  simp only [callM]
  split
  · rename_i h
    try simp only [h, if_true]
    exact ⟨fun ⟨h1, h2, h3, h4⟩ => ⟨⟨h1, h2⟩, h3, h4⟩, fun ⟨⟨h1, h2⟩, h3, h4⟩ => ⟨h1, h2, h3, h4⟩⟩
  · rename_i h
    simp only [Bool.not_eq_true] at h
    try simp only [h, Bool.false_eq_true, if_false]
    exact ⟨fun ⟨h1, h2, h3⟩ => ⟨⟨h1, h2⟩, ⟨_, _, rfl, rfl⟩, fun e T hO => by obtain ⟨rfl, rfl⟩ := hO; simpa using h3⟩, fun ⟨⟨h1, h2⟩, _, h4⟩ => ⟨h1, h2, by simpa using h4 _ [] ⟨rfl, rfl⟩⟩⟩
theorem callM_shape {P : Program} {R : Nat → Bool × D} {s : St} {f : D} {args : List D} {dst : Option Nat} {K : St → Prop} (h : callM P R s f args dst K) : ∃ g first caps t, f = .fn g first caps ∧ dst = some t := by
  unfold callM at h
  split at h
  · exact ⟨_, _, _, _, rfl, rfl⟩
  · exact h.elim

theorem vcM_comm {P : Program} {R : Nat → Bool × D} {mu : List Nat} {nw : Nw} {ops : Array Oper} {oi oj : Oper} (hap : oi.apart ops oj = true) (hc : compatO nw.cp oi oj = true) (hi : clsM oi.op = 3 → ∀ t, oi.dst = some t → t ∈ nw.nw) (hj : clsM oj.op = 3 → ∀ t, oj.dst = some t → t ∈ nw.nw)
    {K : St → Prop} (hPK : PermC K) {s : St} (h : vcOpM P R mu nw oi.op oi.dst (vcOpM P R mu nw oj.op oj.dst K) s) : vcOpM P R mu nw oj.op oj.dst (vcOpM P R mu nw oi.op oi.dst K) s := by
  obtain ⟨a1, a2, a3⟩ := Oper.apart_spec hap
  have evj : ∀ (d : D) (s : St), ∀ x ∈ oj.op.operands, (s.put oi.dst d).ev x = s.ev x := fun d s x hx => put_ev fun t ht hxt => a1 t ht (looks_ops hx hxt)
  have evi : ∀ (d : D) (s : St), ∀ x ∈ oi.op.operands, (s.put oj.dst d).ev x = s.ev x := fun d s x hx => put_ev fun t ht hxt => a3 t ht (looks_ops hx hxt)
  have opj : ∀ t, oi.dst = some t → Operand.tmp t ∉ oj.op.operands := fun t ht hx => a1 t ht (looks_ops hx rfl)
  have opi : ∀ t, oj.dst = some t → Operand.tmp t ∉ oi.op.operands := fun t ht hx => a3 t ht (looks_ops hx rfl)
  have evH : ∀ (s : St) (H : Nat → Option Ob) (n : Nat → Nat) (x : Operand), ({ s with H := H, n := n } : St).ev x = s.ev x := fun s H n x => by cases x <;> rfl
  have evT : ∀ (s : St) (T : List TE) (x : Operand), ({ s with T := T } : St).ev x = s.ev x := fun s T x => by cases x <;> rfl
  have com : ∀ (nt : Nat) (e : Nat → D) (d d' : D), pe nt oj.dst d' (pe nt oi.dst d e) = pe nt oi.dst d (pe nt oj.dst d' e) := fun nt e d d' => pe_comm nt e d d' a2
  -- two operations without a call, the first of which reads alone
  have rd : ∀ {oi oj : Oper}, (∀ (d : D) (s : St), ∀ x ∈ oj.op.operands, (s.put oi.dst d).ev x = s.ev x) → (∀ (d : D) (s : St), ∀ x ∈ oi.op.operands, (s.put oj.dst d).ev x = s.ev x) → (∀ (nt : Nat) (e : Nat → D) (d d' : D), pe nt oj.dst d' (pe nt oi.dst d e) = pe nt oi.dst d (pe nt oj.dst d' e)) →
      (clsM oi.op = 0 ∨ clsM oi.op = 1 ∧ (clsM oj.op ≤ 1 ∨ ∃ t, oi.dst = some t ∧ t ∈ nw.cp)) → clsM oi.op ≠ 2 → clsM oj.op ≠ 2 →
      ((vcOpM P R mu nw oi.op oi.dst (vcOpM P R mu nw oj.op oj.dst K) s → vcOpM P R mu nw oj.op oj.dst (vcOpM P R mu nw oi.op oi.dst K) s) ∧ (vcOpM P R mu nw oj.op oj.dst (vcOpM P R mu nw oi.op oi.dst K) s → vcOpM P R mu nw oi.op oi.dst (vcOpM P R mu nw oj.op oj.dst K) s)) := by
    intro oi oj evj evi cpe hcl n1 n2
    have hHd : ∀ {s : St} {p : Prop} {H : Nat → Option Ob} {n : Nat → Nat} {d : D}, detC P mu nw oj.op oj.dst s = some (p, H, n, d) → p → clsM oi.op = 1 → H = s.H ∨ ∃ t, oi.dst = some t ∧ t ∈ nw.cp := by
      intro s p H n d hd hp h1
      rcases hcl with h | ⟨_, h⟩
      · rw [h] at h1; cases h1
      · rcases h with h | h
        · exact .inl (detC_reader (s' := s) (by omega) (fun _ => .inl rfl) (fun _ _ => rfl) hd hp).1
        · exact .inr h
    have hci : clsM oi.op = 0 ∨ clsM oi.op = 1 := hcl.elim .inl fun h => .inr h.1
    constructor
    · intro h
      rw [vcOpM_det n1] at h
      rw [vcOpM_det n2]
      cases hd : detC P mu nw oi.op oi.dst s with
      | none => rw [hd] at h; exact h.elim
      | some q =>
        obtain ⟨p, H, n, d⟩ := q
        rw [hd] at h
        obtain ⟨hp, h⟩ := h
        obtain ⟨rfl, rfl, _⟩ := detC_reader (s' := s) hci (fun _ => .inl rfl) (fun _ _ => rfl) hd hp
        rw [vcOpM_det n2] at h
        have h : detK (s.put oi.dst d) oj.dst K (detC P mu nw oj.op oj.dst (s.put oi.dst d)) := h
        rw [detC_congr (s := s) (s' := s.put oi.dst d) put_H put_n (evj d s)] at h
        cases hd2 : detC P mu nw oj.op oj.dst s with
        | none => rw [hd2] at h; exact h.elim
        | some q2 =>
          obtain ⟨p2, H2, n2', d2⟩ := q2
          rw [hd2] at h
          obtain ⟨hp2, h⟩ := h
          refine ⟨hp2, ?_⟩
          rw [vcOpM_det n1]
          obtain ⟨_, _, p', hp', hd'⟩ := detC_reader (s' := ({ s with H := H2, n := n2' } : St).put oj.dst d2) hci (fun h1 => by rw [put_H]; exact hHd hd2 hp2 h1) (fun x hx => by rw [evi _ _ x hx, evH]) hd hp
          rw [hd']
          refine ⟨hp', ?_⟩
          simp only [put_pe] at h ⊢
          rw [← cpe]
          exact h
    · intro h
      rw [vcOpM_det n2] at h
      rw [vcOpM_det n1]
      cases hd2 : detC P mu nw oj.op oj.dst s with
      | none => rw [hd2] at h; exact h.elim
      | some q2 =>
        obtain ⟨p2, H2, n2', d2⟩ := q2
        rw [hd2] at h
        obtain ⟨hp2, h⟩ := h
        rw [vcOpM_det n1] at h
        cases hd : detC P mu nw oi.op oi.dst (({ s with H := H2, n := n2' } : St).put oj.dst d2) with
        | none => rw [hd] at h; exact h.elim
        | some q =>
          obtain ⟨p, H, n, d⟩ := q
          rw [hd] at h
          obtain ⟨hp, h⟩ := h
          obtain ⟨rfl, rfl, p', hp', hd'⟩ := detC_reader (s' := s) hci (fun h1 => by rw [put_H]; exact (hHd hd2 hp2 h1).imp Eq.symm id) (fun x hx => ((evi d2 _ x hx).trans (evH s H2 n2' x)).symm) hd hp
          rw [hd']
          refine ⟨hp', ?_⟩
          rw [vcOpM_det n2]
          show detK (s.put oi.dst d) oj.dst K (detC P mu nw oj.op oj.dst (s.put oi.dst d))
          rw [detC_congr (s := s) (s' := s.put oi.dst d) put_H put_n (evj d s), hd2]
          refine ⟨hp2, ?_⟩
          have h : K ((({ s with H := H2, n := n2' } : St).put oj.dst d2).put oi.dst d) := by
            have e3 : ({ (({ s with H := H2, n := n2' } : St).put oj.dst d2) with H := (({ s with H := H2, n := n2' } : St).put oj.dst d2).H, n := (({ s with H := H2, n := n2' } : St).put oj.dst d2).n } : St) = ({ s with H := H2, n := n2' } : St).put oj.dst d2 := rfl
            rw [← e3]; exact h
          simp only [put_pe] at h ⊢
          rw [cpe]
          exact h
  -- the second makes an object, the first touches others
  have nc : ∀ {oi oj : Oper}, (∀ (d : D) (s : St), ∀ x ∈ oj.op.operands, (s.put oi.dst d).ev x = s.ev x) → (∀ (d : D) (s : St), ∀ x ∈ oi.op.operands, (s.put oj.dst d).ev x = s.ev x) → (∀ (nt : Nat) (e : Nat → D) (d d' : D), pe nt oj.dst d' (pe nt oi.dst d e) = pe nt oi.dst d (pe nt oj.dst d' e)) →
      (∀ t, oj.dst = some t → Operand.tmp t ∉ oi.op.operands) → (∀ t, oj.dst = some t → oi.dst ≠ some t) → (∀ t, oj.dst = some t → t ∈ nw.nw) → clsM oi.op ≠ 2 → clsM oj.op = 3 →
      ((vcOpM P R mu nw oi.op oi.dst (vcOpM P R mu nw oj.op oj.dst K) s → vcOpM P R mu nw oj.op oj.dst (vcOpM P R mu nw oi.op oi.dst K) s) ∧ (vcOpM P R mu nw oj.op oj.dst (vcOpM P R mu nw oi.op oi.dst K) s → vcOpM P R mu nw oi.op oi.dst (vcOpM P R mu nw oj.op oj.dst K) s)) := by
    intro oi oj evj evi cpe opi dne hnw n1 c2
    have n2 : clsM oj.op ≠ 2 := by omega
    constructor
    · intro h
      rw [vcOpM_det n1] at h
      rw [vcOpM_det n2]
      cases hd : detC P mu nw oi.op oi.dst s with
      | none => rw [hd] at h; exact h.elim
      | some q =>
        obtain ⟨p, H, n, d⟩ := q
        rw [hd] at h
        obtain ⟨hp, h⟩ := h
        rw [vcOpM_det n2] at h
        cases hd2 : detC P mu nw oj.op oj.dst (({ s with H := H, n := n } : St).put oi.dst d) with
        | none => rw [hd2] at h; exact h.elim
        | some q2 =>
          obtain ⟨p2, H2, n2', d2⟩ := q2
          rw [hd2] at h
          obtain ⟨hp2, h⟩ := h
          obtain ⟨tj, ob, et, eH, en, hall⟩ := detC_news c2 hd2
          rw [put_H] at eH
          rw [put_n] at en
          have eH : H2 = upd H tj (some ob) := eH
          have en : n2' = bump n tj := en
          have fr := fun (z : Option Ob) (v : Nat) (s' : St) (hev : ∀ x ∈ oi.op.operands, s'.ev x = s.ev x) (hH : s'.H = upd s.H tj z) (hn : s'.n = updN s.n tj v) =>
            detC_frame (P := P) (mu := mu) (nw := nw) (op := oi.op) (dst := oi.dst) (s := s) (s' := s') n1 (dne tj et) (hnw tj et) (opi tj et) hev hH hn hd hp
          obtain ⟨k1, k2, _⟩ := fr (s.H tj) (s.n tj) s (fun _ _ => rfl) (upd_self _ _) (updN_self _ _)
          have hdj : detC P mu nw oj.op oj.dst s = some (p2, upd s.H tj (some ob), bump s.n tj, d2) :=
            hall s (fun x hx => ((evj _ _ x hx).trans (evH _ _ _ x)).symm) (by rw [put_n]; exact k2.symm)
          rw [hdj]
          refine ⟨hp2, ?_⟩
          rw [vcOpM_det n1]
          obtain ⟨_, _, p', hp', hd'⟩ := fr (some ob) (s.n tj + 1) (({ s with H := upd s.H tj (some ob), n := bump s.n tj } : St).put oj.dst d2) (fun x hx => by rw [evi _ _ x hx, evH]) (by rw [put_H]) (by rw [put_n]; exact bump_updN _ _)
          rw [hd']
          refine ⟨hp', ?_⟩
          have e4 : updN n tj (s.n tj + 1) = n2' := by rw [en, bump_updN, k2]
          rw [e4, ← eH]
          simp only [put_pe] at h ⊢
          rw [← cpe]
          exact h
    · intro h
      rw [vcOpM_det n2] at h
      rw [vcOpM_det n1]
      cases hd2 : detC P mu nw oj.op oj.dst s with
      | none => rw [hd2] at h; exact h.elim
      | some q2 =>
        obtain ⟨p2, H2, n2', d2⟩ := q2
        rw [hd2] at h
        obtain ⟨hp2, h⟩ := h
        rw [vcOpM_det n1] at h
        obtain ⟨tj, ob, et, rfl, rfl, hall⟩ := detC_news c2 hd2
        cases hd : detC P mu nw oi.op oi.dst (({ s with H := upd s.H tj (some ob), n := bump s.n tj } : St).put oj.dst d2) with
        | none => rw [hd] at h; exact h.elim
        | some q =>
          obtain ⟨p, H, n, d⟩ := q
          rw [hd] at h
          obtain ⟨hp, h⟩ := h
          obtain ⟨k1, k2, p', hp', hd'⟩ := detC_frame (P := P) (mu := mu) (nw := nw) (op := oi.op) (dst := oi.dst) (s' := s) (tj := tj) (v := s.n tj) (z := s.H tj) n1 (dne tj et) (hnw tj et) (opi tj et)
            (fun x hx => ((evi d2 _ x hx).trans (evH s _ _ x)).symm) (by rw [put_H]; show _ = upd (upd s.H tj (some ob)) tj (s.H tj); rw [upd_twice]; exact upd_self _ _) (by rw [put_n]; exact updN_bump_self _ _) hd hp
          rw [put_H] at k1
          rw [put_n] at k2
          have k1 : H tj = some ob := k1.trans (upd_same _ _ _)
          have k2 : n tj = s.n tj + 1 := k2.trans (bump_same _ _)
          rw [hd']
          refine ⟨hp', ?_⟩
          rw [vcOpM_det n2, hall (({ s with H := upd H tj (s.H tj), n := updN n tj (s.n tj) } : St).put oi.dst d) (fun x hx => by rw [evj _ _ x hx, evH]) (by rw [put_n]; exact updN_same _ _ _)]
          refine ⟨hp2, ?_⟩
          have e1 : upd (({ s with H := upd H tj (s.H tj), n := updN n tj (s.n tj) } : St).put oi.dst d).H tj (some ob) = H := by
            rw [put_H]; funext i; simp only [upd]; split
            · rename_i e; rw [e, k1]
            · rfl
          have e2 : bump (({ s with H := upd H tj (s.H tj), n := updN n tj (s.n tj) } : St).put oi.dst d).n tj = n := by
            rw [put_n]; funext i; simp only [bump, updN]; split
            · rename_i e; rw [e, k2]
            · rfl
          rw [e1, e2]
          simp only [put_pe] at h ⊢
          rw [cpe]
          exact h
  -- a call and an operation without one
  have ca : ∀ {oi oj : Oper}, (∀ (d : D) (s : St), ∀ x ∈ oj.op.operands, (s.put oi.dst d).ev x = s.ev x) → (∀ (d : D) (s : St), ∀ x ∈ oi.op.operands, (s.put oj.dst d).ev x = s.ev x) → (∀ (nt : Nat) (e : Nat → D) (d d' : D), pe nt oj.dst d' (pe nt oi.dst d e) = pe nt oi.dst d (pe nt oj.dst d' e)) →
      clsM oi.op = 2 → clsM oj.op ≠ 2 →
      ((vcOpM P R mu nw oi.op oi.dst (vcOpM P R mu nw oj.op oj.dst K) s → vcOpM P R mu nw oj.op oj.dst (vcOpM P R mu nw oi.op oi.dst K) s) ∧ (vcOpM P R mu nw oj.op oj.dst (vcOpM P R mu nw oi.op oi.dst K) s → vcOpM P R mu nw oi.op oi.dst (vcOpM P R mu nw oj.op oj.dst K) s)) := by
    intro oi oj evj evi cpe h2 n2
    obtain ⟨f, args, tys, hop⟩ := cls_val h2
    have eva : ∀ (d : D) (H : Nat → Option Ob) (n : Nat → Nat), (({ s with H := H, n := n } : St).put oj.dst d).ev f = s.ev f ∧ args.toList.map (({ s with H := H, n := n } : St).put oj.dst d).ev = args.toList.map s.ev := by
      intro d H n
      refine ⟨?_, List.map_congr_left fun x hx => ?_⟩
      · rw [evi d _ f (by rw [hop]; simp [Op.operands, Call.operands]), evH]
      · rw [evi d _ x (by rw [hop]; simp [Op.operands, Call.operands]; exact .inr (by simpa using hx)), evH]
    rw [hop]
    constructor
    · intro h
      simp only [vcOpM] at h
      rw [vcOpM_det n2]
      obtain ⟨g, first, caps, t, hf, ht⟩ := callM_shape h
      rw [hf, ht, callM_iff] at h
      obtain ⟨h1, ⟨e0, T0, h0⟩, h⟩ := h
      have key : ∀ (e : D) (T : List TE), vcOpM P R mu nw oj.op oj.dst K ({ s with T := s.T ++ T }.put oi.dst e) → ∃ p H n d, p ∧ detC P mu nw oj.op oj.dst s = some (p, H, n, d) ∧ K ({ (({ s with H := H, n := n } : St).put oj.dst d) with T := s.T ++ T }.put oi.dst e) := by
        intro e T h
        rw [vcOpM_det n2, detC_congr (s := s) (s' := ({ s with T := s.T ++ T } : St).put oi.dst e) put_H put_n (fun x hx => by rw [evj _ _ x hx, evT])] at h
        cases hd : detC P mu nw oj.op oj.dst s with
        | none => rw [hd] at h; exact h.elim
        | some q =>
          obtain ⟨p, H, n, d⟩ := q
          rw [hd] at h
          obtain ⟨hp, h⟩ := h
          refine ⟨p, H, n, d, hp, rfl, ?_⟩
          have e1 : ({ (({ s with H := H, n := n } : St).put oj.dst d) with T := s.T ++ T } : St).put oi.dst e = ({ (({ s with T := s.T ++ T } : St).put oi.dst e) with H := H, n := n } : St).put oj.dst d := by
            simp only [put_pe]
            rw [cpe]
          rw [e1]; exact h
      rw [← ht] at h
      obtain ⟨p, H, n, d, hp, hd, _⟩ := key e0 T0 (h e0 T0 h0)
      rw [hd]
      refine ⟨hp, ?_⟩
      simp only [vcOpM, (eva d H n).1, (eva d H n).2, hf]
      rw [ht, callM_iff]
      refine ⟨h1, ⟨e0, T0, h0⟩, fun e T hO => ?_⟩
      obtain ⟨p', H', n', d', hp', hd', hK⟩ := key e T (h e T hO)
      rw [hd] at hd'
      cases hd'
      rw [put_T, ← ht]
      exact hK
    · intro h
      rw [vcOpM_det n2] at h
      simp only [vcOpM]
      cases hd : detC P mu nw oj.op oj.dst s with
      | none => rw [hd] at h; exact h.elim
      | some q =>
        obtain ⟨p, H, n, d⟩ := q
        rw [hd] at h
        obtain ⟨hp, h⟩ := h
        simp only [vcOpM, (eva d H n).1, (eva d H n).2] at h
        have back : ∀ (e : D) (T : List TE), K ({ (({ s with H := H, n := n } : St).put oj.dst d) with T := s.T ++ T }.put oi.dst e) → vcOpM P R mu nw oj.op oj.dst K ({ s with T := s.T ++ T }.put oi.dst e) := by
          intro e T h
          rw [vcOpM_det n2, detC_congr (s := s) (s' := ({ s with T := s.T ++ T } : St).put oi.dst e) put_H put_n (fun x hx => by rw [evj _ _ x hx, evT]), hd]
          refine ⟨hp, ?_⟩
          have e1 : ({ (({ s with H := H, n := n } : St).put oj.dst d) with T := s.T ++ T } : St).put oi.dst e = ({ (({ s with T := s.T ++ T } : St).put oi.dst e) with H := H, n := n } : St).put oj.dst d := by
            simp only [put_pe]
            rw [cpe]
          rw [e1] at h; exact h
        obtain ⟨g, first, caps, t, hf, ht⟩ := callM_shape h
        rw [hf, ht, callM_iff] at h ⊢
        obtain ⟨h1, h0, h⟩ := h
        refine ⟨h1, h0, fun e T hO => ?_⟩
        have := h e T hO
        rw [put_T] at this
        rw [← ht] at this ⊢
        exact back e T this
  -- two calls
  have cc : clsM oi.op = 2 → clsM oj.op = 2 → vcOpM P R mu nw oj.op oj.dst (vcOpM P R mu nw oi.op oi.dst K) s := by
    intro h2 h2'
    obtain ⟨f, args, tys, hop⟩ := cls_val h2
    obtain ⟨f', args', tys', hop'⟩ := cls_val h2'
    have ei : ∀ (d : D) (T : List TE), (({ s with T := T } : St).put oj.dst d).ev f = s.ev f ∧ args.toList.map (({ s with T := T } : St).put oj.dst d).ev = args.toList.map s.ev := by
      intro d T
      refine ⟨?_, List.map_congr_left fun x hx => ?_⟩
      · rw [evi d _ f (by rw [hop]; simp [Op.operands, Call.operands]), evT]
      · rw [evi d _ x (by rw [hop]; simp [Op.operands, Call.operands]; exact .inr (by simpa using hx)), evT]
    have ej : ∀ (d : D) (T : List TE), (({ s with T := T } : St).put oi.dst d).ev f' = s.ev f' ∧ args'.toList.map (({ s with T := T } : St).put oi.dst d).ev = args'.toList.map s.ev := by
      intro d T
      refine ⟨?_, List.map_congr_left fun x hx => ?_⟩
      · rw [evj d _ f' (by rw [hop']; simp [Op.operands, Call.operands]), evT]
      · rw [evj d _ x (by rw [hop']; simp [Op.operands, Call.operands]; exact .inr (by simpa using hx)), evT]
    rw [hop, hop'] at h ⊢
    simp only [vcOpM] at h ⊢
    obtain ⟨g, first, caps, t, hf, ht⟩ := callM_shape h
    rw [hf, ht, callM_iff] at h
    obtain ⟨h1, ⟨e0, T0, h0⟩, h⟩ := h
    have hx := h e0 T0 h0
    rw [← ht] at hx
    simp only [vcOpM] at hx
    obtain ⟨g', first', caps', t', hf', ht'⟩ := callM_shape hx
    have hf' := (ej e0 (s.T ++ T0)).1.symm.trans hf'
    rw [(ej e0 (s.T ++ T0)).1, (ej e0 (s.T ++ T0)).2, hf', ht', callM_iff] at hx
    obtain ⟨k1, k0, _⟩ := hx
    rw [hf', ht', callM_iff]
    refine ⟨k1, k0, fun e' T' hO' => ?_⟩
    simp only [vcOpM]
    rw [← ht', (ei e' (s.T ++ T')).1, (ei e' (s.T ++ T')).2, hf, ht, callM_iff]
    refine ⟨h1, ⟨e0, T0, h0⟩, fun e T hO => ?_⟩
    have hy := h e T hO
    simp only [vcOpM] at hy
    rw [← ht, (ej e (s.T ++ T)).1, (ej e (s.T ++ T)).2, hf', ht', callM_iff] at hy
    have hz := hy.2.2 e' T' hO'
    rw [put_T] at hz
    rw [put_T, ← ht]
    rw [← ht'] at hz
    have := hPK _ (s.T ++ T' ++ T) (by
      rw [put_T]
      show (s.T ++ T' ++ T).Perm (s.T ++ T ++ T')
      rw [List.append_assoc, List.append_assoc]
      exact List.perm_append_comm.append_left _) hz
    simp only [put_pe] at this ⊢
    rw [← com]
    exact this
  have com' : ∀ (nt : Nat) (e : Nat → D) (d d' : D), pe nt oi.dst d' (pe nt oj.dst d e) = pe nt oj.dst d (pe nt oi.dst d' e) := fun nt e d d' => (com nt e d' d).symm
  have a2' : ∀ t, oj.dst = some t → oi.dst ≠ some t := fun t ht e => a2 t e ht
  by_cases i2 : clsM oi.op = 2
  · by_cases j2 : clsM oj.op = 2
    · exact cc i2 j2
    · exact (ca evj evi com i2 j2).1 h
  · by_cases j2 : clsM oj.op = 2
    · exact (ca evi evj com' j2 i2).2 h
    · have inO_spec : ∀ {dst : Option Nat}, inO nw.cp dst = true → ∃ t, dst = some t ∧ t ∈ nw.cp := fun {dst} h => by
        cases dst with
        | none => cases h
        | some t => exact ⟨t, rfl, by simpa [inO] using h⟩
      by_cases hir : clsM oi.op = 0 ∨ clsM oi.op = 1 ∧ (clsM oj.op ≤ 1 ∨ ∃ t, oi.dst = some t ∧ t ∈ nw.cp)
      · exact (rd evj evi com hir i2 j2).1 h
      · by_cases hjr : clsM oj.op = 0 ∨ clsM oj.op = 1 ∧ (clsM oi.op ≤ 1 ∨ ∃ t, oj.dst = some t ∧ t ∈ nw.cp)
        · exact (rd evi evj com' hjr j2 i2).2 h
        · by_cases j3 : clsM oj.op = 3
          · exact (nc evj evi com opi a2' (hj j3) i2 j3).1 h
          · by_cases i3 : clsM oi.op = 3
            · exact (nc evi evj com' opj a2 (hi i3) j2 i3).2 h
            · exfalso
              simp only [compatO, compatM, Bool.or_eq_true, Bool.and_eq_true, beq_iff_eq, decide_eq_true_eq] at hc
              rcases hc with (hc | ⟨⟨h1, h4⟩, hin⟩) | ⟨⟨h1, h4⟩, hin⟩
              · omega
              · exact hir (.inr ⟨h1, .inr (inO_spec hin)⟩)
              · exact hjr (.inr ⟨h4, .inr (inO_spec hin)⟩)
theorem detC_T {P : Program} {mu : List Nat} {nw : Nw} {op : Op} {dst : Option Nat} {s : St} {T : List TE} : detC P mu nw op dst { s with T := T } = detC P mu nw op dst s := detC_congr rfl rfl fun x _ => by cases x <;> rfl
theorem vcOpM_perm {P : Program} {R : Nat → Bool × D} {mu : List Nat} {nw : Nw} {op : Op} {dst : Option Nat} {K : St → Prop} (hK : PermC K) : PermC (vcOpM P R mu nw op dst K) := by
  intro s T hT h
  by_cases hc : clsM op = 2
  · obtain ⟨f, args, tys, rfl⟩ := cls_val hc
    simp only [vcOpM] at h ⊢
    have ev : ({ s with T := T } : St).ev = s.ev := by funext x; cases x <;> rfl
    obtain ⟨g, first, caps, t, hf, ht⟩ := callM_shape h
    have e1 : callM P R { s with T := T } (({ s with T := T } : St).ev f) (args.toList.map ({ s with T := T } : St).ev) dst K = callM P R { s with T := T } (s.ev f) (args.toList.map s.ev) dst K := by rw [ev]
    refine e1.mpr ?_
    rw [hf, ht, callM_iff] at h ⊢
    obtain ⟨h1, h0, h⟩ := h
    refine ⟨h1, h0, fun e T' hO => ?_⟩
    have := hK _ (T ++ T') (by rw [put_T]; exact hT.append_right _) (h e T' hO)
    simp only [put_pe] at this ⊢
    exact this
  · rw [vcOpM_det hc] at h ⊢
    rw [detC_T]
    cases hd : detC P mu nw op dst s with
    | none => rw [hd] at h; exact h
    | some q =>
      obtain ⟨p, H, n, d⟩ := q
      rw [hd] at h
      refine ⟨h.1, ?_⟩
      have := hK _ T (by rw [put_T]; exact hT) h.2
      simp only [put_pe] at this ⊢
      exact this
theorem anyM_perm {P : Program} {R : Nat → Bool × D} {mu : List Nat} {nw : Nw} {md : Region.Mode} {ops : Array Oper} {K : St → Prop} (hK : PermC K) : ∀ (fuel : Nat) (listed : Array Bool), PermC (anyM P R mu nw md ops K fuel listed)
  | 0, _ => fun s T hT h => ⟨h.1, hK s T hT h.2⟩
  | fuel + 1, listed => fun s T hT h => ⟨fun e => hK s T hT (h.1 e), fun i hi => let ⟨o, ho, h'⟩ := h.2 i hi; ⟨o, ho, vcOpM_perm (anyM_perm hK fuel _) s T hT h'⟩⟩

theorem depM_free {md : Region.Mode} {ops : Array Oper} {listed : Array Bool} (hcl : ∀ j oj, ops[j]? = some oj → listed.getD j false = true → ∀ e ∈ oj.after, Region.binds md e = true → listed.getD e.on false = true) {i : Nat} (hi : listed.getD i false = false) :
    ∀ (f : Nat) (j : Nat), depM md ops f j i = true → j ∉ Region.ready md ops listed ∧ listed.getD j false = false
  | 0, _, h => by simp [depM] at h
  | f + 1, j, h => by
    simp only [depM] at h
    split at h
    · rename_i oj hoj
      obtain ⟨e, he, hb⟩ := Array.any_eq_true'.1 h
      simp only [Bool.and_eq_true, Bool.or_eq_true, beq_iff_eq] at hb
      obtain ⟨hbd, hb⟩ := hb
      have hun : listed.getD e.on false = false := by
        rcases hb with rfl | hb
        · exact hi
        · exact (depM_free hcl hi f e.on hb).2
      refine ⟨fun hr => ?_, ?_⟩
      · obtain ⟨_, oj', hoj', hall⟩ := mem_ready.1 hr
        rw [hoj] at hoj'; cases hoj'
        have := hall e he hbd
        rw [hun] at this; cases this
      · cases hl : listed.getD j false with
        | false => rfl
        | true => have := hcl j oj hoj hl e he hbd; rw [hun] at this; cases this
    · cases h
theorem getD_set_self {listed : Array Bool} {i j : Nat} (h : (listed.setIfInBounds i true).getD j false = true) : j = i ∨ listed.getD j false = true := by
  by_cases e : i = j
  · exact .inl e.symm
  · rw [getD_set_ne false e] at h; exact .inr h
theorem closed_set {md : Region.Mode} {ops : Array Oper} {listed : Array Bool} (hcl : ∀ j oj, ops[j]? = some oj → listed.getD j false = true → ∀ e ∈ oj.after, Region.binds md e = true → listed.getD e.on false = true) {i : Nat} (hi : i ∈ Region.ready md ops listed) :
    ∀ j oj, ops[j]? = some oj → (listed.setIfInBounds i true).getD j false = true → ∀ e ∈ oj.after, Region.binds md e = true → (listed.setIfInBounds i true).getD e.on false = true := by
  intro j oj hoj hl e he hb
  refine getD_set_true ?_
  rcases getD_set_self hl with rfl | hl
  · obtain ⟨_, oj', hoj', hall⟩ := mem_ready.1 hi
    rw [hoj] at hoj'; cases hoj'
    exact hall e he hb
  · exact hcl j oj hoj hl e he hb

theorem getD_repF (m j : Nat) : (Array.replicate m false).getD j false = false := by
  rcases Nat.lt_or_ge j m with h | h
  · simp [h]
  · simp [h]
theorem newsL_mem : ∀ {l : List Oper} {o : Oper} {t : Nat}, o ∈ l → clsM o.op = 3 → o.dst = some t → t ∈ newsL l
  | [], _, _, h, _, _ => by cases h
  | o' :: l, o, t, h, hc, hd => by
    rcases List.mem_cons.1 h with rfl | h
    · refine List.mem_append_left _ ?_
      obtain ⟨dst, op, ty, pos, after, guard⟩ := o
      simp only at hd hc ⊢
      subst hd
      cases op <;> simp only [clsM] at hc <;> first | (exact absurd hc (by decide)) | simp | skip
      rename_i c
      have := cls_call c
      simp only [clsM] at this
      omega
    · exact List.mem_append_right _ (newsL_mem h hc hd)

theorem anyM_first {P : Program} {R : Nat → Bool × D} {mu L : List Nat} {md : Region.Mode} {ops : Array Oper} {K : St → Prop} (hPK : PermC K) {i : Nat} {oi : Oper} (hi : ops[i]? = some oi) : ∀ (fuel : Nat) (listed : Array Bool) (s : St),
    (∀ j oj, ops[j]? = some oj → listed.getD j false = true → ∀ e ∈ oj.after, Region.binds md e = true → listed.getD e.on false = true) →
    (∀ j oj, ops[j]? = some oj → j ≠ i → listed.getD j true = false → depM md ops ops.size j i = true ∨ (oi.apart ops oj = true ∧ compatO L oi oj = true)) →
    i ∈ Region.ready md ops listed → vcOpM P R mu ⟨newsL ops.toList, L⟩ oi.op oi.dst (anyM P R mu ⟨newsL ops.toList, L⟩ md ops K fuel (listed.setIfInBounds i true)) s → anyM P R mu ⟨newsL ops.toList, L⟩ md ops K (fuel + 1) listed s := by
  have hnw : ∀ (j : Nat) (oj : Oper), ops[j]? = some oj → clsM oj.op = 3 → ∀ t, oj.dst = some t → t ∈ newsL ops.toList := fun j oj h hc t ht =>
    newsL_mem (List.mem_of_getElem? (i := j) (by simpa using h)) hc ht
  intro fuel
  induction fuel with
  | zero =>
    intro listed s hcl hfree hr h
    refine ⟨fun e => (by rw [e] at hr; cases hr), fun j hj => ?_⟩
    by_cases hji : j = i
    · subst hji; exact ⟨oi, hi, h⟩
    · obtain ⟨hjun, oj, hoj, _⟩ := mem_ready.1 hj
      have hiun : listed.getD i false = false := by
        have := (mem_ready.1 hr).1
        by_cases h' : i < listed.size
        · simp [h'] at this ⊢; exact this
        · simp [Array.getElem?_eq_none (by omega : listed.size ≤ i)]
      rcases hfree j oj hoj hji hjun with hdep | ⟨hap, hc⟩
      · exact absurd hj (depM_free hcl hiun _ _ hdep).1
      · refine ⟨oj, hoj, ?_⟩
        refine (vcOpM_false (vcOpM_mono (fun s' h' => ?_) h)).elim
        have hm := ready_mono hj hji
        rw [h'.1] at hm; cases hm
  | succ fuel ih =>
    intro listed s hcl hfree hr h
    refine ⟨fun e => (by rw [e] at hr; cases hr), fun j hj => ?_⟩
    by_cases hji : j = i
    · subst hji; exact ⟨oi, hi, h⟩
    obtain ⟨hjun, oj, hoj, _⟩ := mem_ready.1 hj
    have hiun : listed.getD i false = false := by
      have := (mem_ready.1 hr).1
      by_cases h' : i < listed.size
      · simp [h'] at this ⊢; exact this
      · simp [Array.getElem?_eq_none (by omega : listed.size ≤ i)]
    rcases hfree j oj hoj hji hjun with hdep | ⟨hap, hc⟩
    · exact absurd hj (depM_free hcl hiun _ _ hdep).1
    · refine ⟨oj, hoj, ?_⟩
      have h1 : vcOpM P R mu ⟨newsL ops.toList, L⟩ oi.op oi.dst (vcOpM P R mu ⟨newsL ops.toList, L⟩ oj.op oj.dst (anyM P R mu ⟨newsL ops.toList, L⟩ md ops K fuel ((listed.setIfInBounds i true).setIfInBounds j true))) s :=
        vcOpM_mono (fun s' h' => by
          obtain ⟨oj', hoj', h'⟩ := h'.2 j (ready_mono hj hji)
          rw [hoj] at hoj'; cases hoj'
          exact h') h
      have h2 := vcM_comm hap hc (hnw i oi hi) (hnw j oj hoj) (anyM_perm hPK _ _) h1
      refine vcOpM_mono (fun s' h' => ih (listed.setIfInBounds j true) s' (closed_set hcl hj) (fun k ok hk hki hun => ?_) (ready_mono hr (Ne.symm hji)) (by rw [Array.setIfInBounds_comm _ _ hji]; exact h')) h2
      refine hfree k ok hk hki ?_
      by_cases hjk : j = k
      · subst hjk; exact hjun
      · rw [getD_set_ne true hjk] at hun; exact hun
theorem anyM_lex {P : Program} {R : Nat → Bool × D} {mu L : List Nat} {md : Region.Mode} {ops : Array Oper} {K : St → Prop} (hPK : PermC K) : ∀ (l : List Oper) (k : Nat) (listed : Array Bool) (s : St), (∀ j, l[j]? = ops[k + j]?) →
    (∀ j oj, ops[j]? = some oj → listed.getD j false = true → ∀ e ∈ oj.after, Region.binds md e = true → listed.getD e.on false = true) →
    lexM L md ops l.length k listed = true → vcOpsM P R mu ⟨newsL ops.toList, L⟩ l K s → anyM P R mu ⟨newsL ops.toList, L⟩ md ops K l.length listed s
  | [], _, _, _, _, _, hB, h => ⟨by simpa [lexM] using hB, h⟩
  | o :: l, k, listed, s, hl, hcl, hB, h => by
    have h0 : ops[k]? = some o := by simpa using (hl 0).symm
    simp only [List.length_cons, lexM, Bool.and_eq_true] at hB
    obtain ⟨⟨hr, hf⟩, hB'⟩ := hB
    have hr' : k ∈ Region.ready md ops listed := by simpa using hr
    refine anyM_first hPK h0 l.length listed s hcl (fun j oj hoj hjk hun => ?_) hr' (vcOpM_mono (fun s' h' => anyM_lex hPK l (k + 1) _ s' (fun j => ?_) (closed_set hcl hr') hB' h') h)
    · rw [List.all_eq_true] at hf
      have := hf j (List.mem_range.2 (Array.getElem?_eq_some_iff.1 hoj).1)
      simp only [h0, hoj, Bool.or_eq_true, Bool.and_eq_true, beq_iff_eq] at this
      rcases this with ((h | h) | h) | h
      · rw [hun] at h; cases h
      · exact absurd h hjk
      · exact .inl h
      · exact .inr h
    · have := hl (j + 1)
      simpa [Nat.add_assoc, Nat.add_comm 1 j] using this

section
variable {P : Program} {w0 : Bs} {M : Nat → Prop} {g : Nat → Option (Nat × Nat × Nat)} {s : St} {a : Act} {w : World}

theorem anyM_sound {R : Nat → Bool × D} {mu : List Nat} {nw : Nw} {md : Region.Mode} {ops : Array Oper} (hg : (ops.all fun o => o.guard.isNone) = true) {K : St → Prop} {Q : Exit → Act → World → Prop} (hQ : ∀ a w, LK w0 K a w → Q .normal a w) : ∀ (fuel : Nat) (listed : Array Bool) {M : Nat → Prop} {g : Nat → Option (Nat × Nat × Nat)} {s : St} {a : Act} {w : World}, Rep w0 M g s a w → anyM P R mu nw md ops K fuel listed s → wpAny P md ops Q fuel listed a w
  | 0, _, M, g, s, a, w, hr, h => ⟨h.1, hQ _ _ ⟨s, g, M, h.2, hr⟩⟩
  | fuel + 1, listed, M, g, s, a, w, hr, h => by
    refine ⟨fun e => hQ _ _ ⟨s, g, M, h.1 e, hr⟩, fun i hi => ?_⟩
    obtain ⟨o, ho, hn⟩ := h.2 i hi
    have hgo : o.guard = none := by
      have := Array.all_eq_true'.1 hg o (Array.mem_of_getElem? ho)
      simpa using this
    unfold wpOp
    simp only [ho]
    rw [if_pos (by simp [Region.wanted, hgo])]
    exact .inl (Oper.wp_mono (fun a w ⟨s', g', M', h1, h2⟩ => anyM_sound hg hQ fuel _ h2 h1) (vcOp_sound hr (vcOpM_vcOp hn)))

theorem vc_sound {mu : List Nat} : ∀ (c : Code) (Q : Exit → St → Prop) {M : Nat → Prop} {g : Nat → Option (Nat × Nat × Nat)} {s : St} {a : Act} {w : World}, Rep w0 M g s a w → vc P mu c Q s → c.wp P (LQ w0 Q) a w
  | .skip, Q, M, g, s, a, w, hr, h => wp_skip ⟨s, g, M, h, hr⟩
  | .region id ops draw, Q, M, g, s, a, w, hr, h => by
    cases draw with
    | false => exact wp_region_list (vcOps_sound (K := Q .normal) (fun a w ⟨s, g, M, h1, h2⟩ => ⟨s, g, M, h1, h2⟩) ops.toList hr h)
    | true =>
      simp only [vc, if_true] at h
      split at h
      · rcases h with ⟨h1, R, L, h2, h3⟩ | ⟨h1, h2⟩
        rotate_left 1
        · exact wp_region_any h1 (h2 _ _ _ _ _ _ (fun a w ⟨s, g, M, k1, k2⟩ => ⟨s, g, M, k1, k2⟩) (hr.grow (by exact ⟨rfl, rfl, rfl, Nat.le_refl _, fun _ _ => rfl⟩)))
        simp only [memB, Bool.and_eq_true] at h2
        refine wp_region_any h1 (anyM_sound (R := R) (mu := mu) (nw := ⟨newsL ops.toList, L⟩) h2.2 (K := GK (Q .normal)) (fun a w ⟨s, g, M, k1, k2⟩ => k1 _ _ _ _ _ k2) _ _ (hr.grow (by exact ⟨rfl, rfl, rfl, Nat.le_refl _, fun _ _ => rfl⟩)) ?_)
        have := anyM_lex (P := P) (R := R) (mu := mu) (L := L) (md := .any) (ops := ops) (K := GK (Q .normal)) (fun s T hT k w0 M g a w hr => k w0 M g a w (hr.perm hT.symm)) ops.toList 0 (Array.replicate ops.size false) s (by simp) (fun j oj _ hl => by rw [getD_repF] at hl; cases hl) (by simpa using h2.1) (vcOpsM_mono (fun s k => GK.intro k) _ h3)
        simpa using this
      rcases h with ⟨h1, h2, h3⟩ | ⟨h1, h2⟩
      rotate_left 1
      · exact wp_region_any h1 (h2 _ _ _ _ _ _ (fun a w ⟨s, g, M, k1, k2⟩ => ⟨s, g, M, k1, k2⟩) (hr.grow (by exact ⟨rfl, rfl, rfl, Nat.le_refl _, fun _ _ => rfl⟩)))
      simp only [Region.lexB, Bool.and_eq_true] at h2
      refine wp_region_any h1 (anyD_sound (K := Q .normal) (fun a w ⟨s, g, M, k1, k2⟩ => ⟨s, g, M, k1, k2⟩) _ _ (hr.grow (by exact ⟨rfl, rfl, rfl, Nat.le_refl _, fun _ _ => rfl⟩)) ?_)
      have := anyD_lex (P := P) (md := .any) (ops := ops) (K := Q .normal) ops.toList 0 (Array.replicate ops.size false) s (by simp) (by simpa using h2.2) (lexD_of_vc _ h3)
      simpa using this
  | .seq x y, Q, M, g, s, a, w, hr, h => by
    refine wp_seq (wp_mono (vc_sound x _ hr h) fun e a w ⟨s, g, M, h1, h2⟩ => ?_)
    cases e
    case normal => exact vc_sound y Q h2 h1
    all_goals exact ⟨s, g, M, h1, h2⟩
  | .cond c x y, Q, M, g, s, a, w, hr, h => by
    have hc := hr.ev c
    simp only [vc, condK] at h
    split at h
    · rename_i b hb
      rw [hb] at hc
      generalize hce : a.eval c = v at hc
      cases hc
      cases b
      · exact wp_cond_false hce (vc_sound y Q hr (h.2 rfl))
      · exact wp_cond_true hce (vc_sound x Q hr (h.1 rfl))
    · exact h.elim
  | .block id c, Q, M, g, s, a, w, hr, h => by
    refine wp_block (wp_mono (vc_sound c _ hr h) fun e a w ⟨s, g, M, h1, h2⟩ => ?_)
    cases e
    case exit id' =>
      simp only [blockQ] at h1
      simp only [Exit.inBlock]
      split
      · rename_i hi; rw [if_pos hi] at h1; exact ⟨s, g, M, h1, h2⟩
      · rename_i hi; rw [if_neg hi] at h1; exact ⟨s, g, M, h1, h2⟩
    all_goals exact ⟨s, g, M, h1, h2⟩
  | .loop c, Q, M, g, s, a, w, hr, h => by
    obtain ⟨n, hn⟩ := h
    refine wp_loop_rounds n ?_
    have key : ∀ (n : Nat) {M : Nat → Prop} {g : Nat → Option (Nat × Nat × Nat)} {s : St} {a : Act} {w : World}, Rep w0 M g s a w → iterK (fun I => vc P mu c (thenQ (GK I) Q)) n s → Code.rounds P c (LQ w0 Q) n a w := by
      intro n
      induction n with
      | zero => intro M g s a w _ h; exact h.elim
      | succ n ih =>
        intro M g s a w hr h
        rw [rounds_succ]
        refine wp_mono (vc_sound c _ hr h) fun e a w ⟨s, g, M, h1, h2⟩ => ?_
        cases e
        case normal =>
          obtain ⟨s', g', M', k1, k2⟩ := h1 _ _ _ _ _ h2
          exact ih k2 k1
        all_goals exact ⟨s, g, M, h1, h2⟩
    exact key n hr hn
  | .exit id, Q, M, g, s, a, w, hr, h => wp_exit ⟨s, g, M, h, hr⟩
  | .ret, Q, M, g, s, a, w, hr, h => wp_ret ⟨s, g, M, h, hr⟩
  | .rangeFunc .., _, _, _, _, _, _, _, h => h.elim
  | .scope _, _, _, _, _, _, _, _, h => h.elim
  | .label _, _, _, _, _, _, _, _, h => h.elim
  | .goto _, _, _, _, _, _, _, _, h => h.elim
  | .refuse _, _, _, _, _, _, _, _, h => h.elim

/-! ### A function's contract -/
def resOne (P : Program) (s : St) : ResultVar → Option D
  | .tmp t => some (s.env t)
  | .cell ad t => loadD P s t (s.env ad)
def resD (P : Program) (s : St) (rs : List ResultVar) : Option D :=
  match rs with
  | [r] => resOne P s r
  | rs => (rs.mapM (resOne P s)).map .tp
def retQ (P : Program) (rs : List ResultVar) (r : D) : Exit → St → Prop
  | .normal, s => ∃ d, resD P s rs = some d ∧ Fz s.H d r
  | .ret, s => ∃ d, resD P s rs = some d ∧ Fz s.H d r
  | _, _ => False

def envOf (as : List D) : Nat → D := fun i => as.getD i (.sc (.tuple #[]))
def noOb : Nat → Option Ob := fun _ => none
def st0 (as : List D) (nt : Nat) : St := { env := envOf as, H := noOb, n := noN, nt }

def resSem (tmps : Array Value) : ResultVar → Sem Value
  | .tmp t => pure (tmps.getD t undef)
  | .cell ad t => do loadVar t (← asAddr (tmps.getD ad undef))
theorem results_eq (fn : Func) (tmps : Array Value) : results fn tmps = (do let vs ← fn.results.mapM (resSem tmps); pure (if h : vs.size = 1 then vs[0] else .tuple vs)) := by
  have e : (fun x : ResultVar => (match x with | .tmp t => pure (tmps.getD t undef) | .cell a t => do loadVar t (← asAddr (tmps.getD a undef)) : Sem Value)) = resSem tmps := by funext x; cases x <;> rfl
  unfold results
  rw [← e]
  rfl
theorem resOne_sound (hr : Rep w0 M g s a w) {x : ResultVar} {d : D} (h : resOne P s x = some d) :
    ∃ v, Rd (view w M g s.n) d v ∧ (resSem a.tmps x).run P w = .ok v w := by
  cases x with
  | tmp t => simp only [resOne, Option.some.injEq] at h; subst h; exact ⟨_, hr.env t, rfl⟩
  | cell ad t =>
    simp only [resOne] at h
    obtain ⟨v, h1, h2⟩ := load_sound (x := .tmp ad) hr h
    refine ⟨v, h1, ?_⟩
    have h3 := h2 w (Below.refl _ _)
    simp only [Act.eval] at h3
    simp only [resSem]
    generalize a.tmps.getD ad undef = vx at h3 ⊢
    simp only [Instr.loadAt, Sem.run_bind] at h3
    cases vx <;> simp only [Instr.sureAddr, stuck, Sem.run] at h3
    all_goals first
      | (cases h3; done)
      | skip
    rename_i p
    cases p with
    | none => simp only [Sem.run, Result.andThen] at h3; cases h3
    | some p => simpa [asAddr] using h3

theorem resD_sound (hr : Rep w0 M g s a w) {fn : Func} {d : D} (h : resD P s fn.results.toList = some d) : ∃ v, Rd (view w M g s.n) d v ∧ (results fn a.tmps).run P w = .ok v w := by
  have key : ∀ (l : List ResultVar) (ds : List D), l.mapM (resOne P s) = some ds → ∃ vs : List Value, ds.length = vs.length ∧ (∀ (i : Nat) (d : D) (v : Value), ds[i]? = some d → vs[i]? = some v → Rd (view w M g s.n) d v) ∧
      (l.mapM (resSem a.tmps)).run P w = .ok vs w := by
    intro l
    induction l with
    | nil => intro ds h; simp at h; subst h; exact ⟨[], rfl, by simp, rfl⟩
    | cons x l ih =>
      intro ds h
      rw [List.mapM_cons] at h
      simp only [Option.bind_eq_bind, Option.bind_eq_some_iff, Option.pure_def, Option.some.injEq] at h
      obtain ⟨d, hd, ds', hds, rfl⟩ := h
      obtain ⟨v, v1, v2⟩ := resOne_sound hr hd
      obtain ⟨vs, q1, q2, q3⟩ := ih ds' hds
      refine ⟨v :: vs, by simp [q1], fun i d v hd hv => ?_, ?_⟩
      · cases i with
        | zero => simp at hd hv; subst hd; subst hv; exact v1
        | succ i => exact q2 i d v (by simpa using hd) (by simpa using hv)
      · rw [List.mapM_cons]
        simp only [Sem.run_bind]
        rw [v2]
        simp only [Result.andThen_ok]
        rw [q3]
        rfl
  have hres : ∀ (vs : List Value), (fn.results.toList.mapM (resSem a.tmps)).run P w = .ok vs w →
      (results fn a.tmps).run P w = .ok (if h : vs.toArray.size = 1 then vs.toArray[0] else .tuple vs.toArray) w := by
    intro vs hvs
    rw [results_eq, Sem.run_bind, ← Array.toArray_toList (xs := fn.results), List.mapM_toArray, ← bind_pure_comp, Sem.run_bind, hvs]
    rfl
  unfold resD at h
  split at h
  · rename_i r hrr
    obtain ⟨v, v1, v2⟩ := resOne_sound hr h
    refine ⟨v, v1, ?_⟩
    have := hres [v] (by rw [hrr, List.mapM_cons]; simp only [Sem.run_bind]; rw [v2]; rfl)
    rw [this]; rfl
  · rename_i rs hne
    simp only [Option.map_eq_some_iff] at h
    obtain ⟨ds, hds, rfl⟩ := h
    obtain ⟨vs, q1, q2, q3⟩ := key _ _ hds
    refine ⟨.tuple vs.toArray, .tp ds vs q1 q2, ?_⟩
    rw [hres vs q3]
    have hlen : ∀ (l : List ResultVar) (ds : List D), l.mapM (resOne P s) = some ds → ds.length = l.length := by
      intro l
      induction l with
      | nil => intro ds h; simp at h; subst h; rfl
      | cons x l ih =>
        intro ds h
        rw [List.mapM_cons] at h
        simp only [Option.bind_eq_bind, Option.bind_eq_some_iff, Option.pure_def, Option.some.injEq] at h
        obtain ⟨d, hd, ds', hds, rfl⟩ := h
        simp [ih ds' hds]
    have h1 : ¬ vs.toArray.size = 1 := by
      intro k
      have hl := hlen _ _ hds
      simp only [List.size_toArray] at k
      rw [q1, k] at hl
      cases hr' : fn.results.toList with
      | nil => rw [hr'] at hl; simp at hl
      | cons x l =>
        cases l with
        | nil => exact hne x hr'
        | cons y l => rw [hr'] at hl; simp at hl
    rw [dif_neg h1]

/-- What a call begins with. -/
def stT (as : List D) (nt : Nat) (Ts : List TE) : St := { env := envOf as, H := noOb, n := noN, nt, T := Ts }
theorem Rep.start {w : World} {M : Nat → Prop} {as : List D} {vs : List Value} {Ts : List TE} {nt : Nat} (O : Option (Nat × Nat)) (hO : O = none) (hM : ∀ b, M b → b < w.heap.size) (hl : as.length = vs.length) (hle : as.length ≤ nt)
    (hv : ∀ (i : Nat) (d : D) (v : Value), as[i]? = some d → vs[i]? = some v → Rd (view w (fun b => M b ∨ ∃ e ∈ Ts, b ∈ e.F) (fun _ => none) noN) d v)
    (ht : ∀ e ∈ Ts, T1 w e.d e.u e.F ∧ ∀ b ∈ e.F, ¬ M b) (hn : (bl Ts).Nodup) :
    Rep ⟨w, M, fun b => ∃ e ∈ Ts, b ∈ e.F, O⟩ (fun b => M b ∨ ∃ e ∈ Ts, b ∈ e.F) (fun _ => none) (stT as nt Ts) { tmps := vs.toArray ++ Array.replicate (nt - vs.toArray.size) undef, defers := [] } w := by
  refine ⟨rfl, by simp [stT]; omega, fun i => ?_, by simp [stT, noOb], by simp, by simp, ⟨rfl, rfl, rfl, Nat.le_refl _, fun _ _ => rfl⟩, fun b k => ⟨?_, by simp⟩, fun b => Iff.rfl, fun b k k' => ?_, fun e he => ⟨(ht e he).1, fun b hb => .inr ⟨e, he, hb⟩⟩, hn, fun x e => by rw [hO] at e; cases e⟩
  · show Rd _ (as.getD i (.sc (.tuple #[]))) _
    by_cases hi : i < as.length
    · have h1 : as[i]? = some as[i] := List.getElem?_eq_getElem hi
      have h2 : vs[i]? = some (vs[i]'(by omega)) := List.getElem?_eq_getElem (by omega)
      have := hv i _ _ h1 h2
      show Rd (view w (fun b => M b ∨ ∃ e ∈ Ts, b ∈ e.F) (fun _ => none) noN) _ _
      simpa [List.getD, h1, Array.getD_eq_getD_getElem?, Array.getElem?_append, h2, show i < vs.length by omega] using this
    · have e1 : as.getD i (.sc (.tuple #[])) = .sc (.tuple #[]) := by simp [List.getD, List.getElem?_eq_none (Nat.le_of_not_lt hi)]
      have e2 : (vs.toArray ++ Array.replicate (nt - vs.toArray.size) undef).getD i undef = undef := by
        rw [Array.getD_eq_getD_getElem?, Array.getElem?_append_right (by simp; omega)]
        simp only [Array.getElem?_replicate]
        split <;> rfl
      rw [e1, e2]; exact .sc undef
  · rcases k with k | ⟨e, he, hb⟩
    · exact hM b k
    · exact (ht e he).1.lt b hb
  · rcases k' with k' | ⟨e, he, hb⟩
    · have : w.heap.size ≤ b := k'
      have := hM b k; omega
    · exact (ht e he).2 b hb k
/-- **A contract out of a walk over data.** -/
theorem Sp.of_vc {f : FuncId} {fn : Func} {c : Code} {as : List D} {r : D} {nt : Nat} (mu : List Nat) (rs : List ResultVar) (hf : P.funcs[f]? = some fn) (hb : fn.body = some c) (hn : (fn.name == "runtime.NumGoroutine") = false)
    (hnt : fn.ntmps = nt) (hrs : fn.results.toList = rs) (hle : as.length ≤ nt) (h : vc P mu c (retQ P rs r) (st0 as nt)) : Sp P f as r := by
  subst hrs
  refine ⟨⟨fn, hf, hn, by rw [hb]; rfl⟩, fun w M vs hM hl hv => ?_⟩
  subst hnt
  have hr := Rep.start (Ts := []) none rfl hM hl hle (fun i d v hd hv' => (hv i d v hd hv').mono (view_le fun b => by rintro (k | ⟨_, k, _⟩); exact k; cases k)) (by simp) (by simp)
  refine calls_of_wp hf hb (wp_mono (vc_sound c _ hr h) fun e a w' ⟨s', g', M', h1, h2⟩ => ?_)
  have fin : ∀ d, resD P s' fn.results.toList = some d → Fz s'.H d r → a.defers = [] ∧ ∃ v, (results fn a.tmps).run P w' = .ok v w' ∧ ∃ u, Ending.returned v = .returned u ∧ Below w.heap.size w w' ∧ Rd (view w' M (fun _ => none) noN) r u := by
    intro d hd hz
    obtain ⟨v, v1, v2⟩ := resD_sound h2 hd
    exact ⟨h2.defers, v, v2, v, rfl, bs_below h2.below (by simp), (Rd.freeze h2 hz v1).mono (view_le fun b k => (h2.mm b).2 (.inl k))⟩
  cases e
  case normal => obtain ⟨d, hd, hz⟩ := h1; exact fin d hd hz
  case ret => obtain ⟨d, hd, hz⟩ := h1; exact fin d hd hz
  all_goals exact h1.elim

/-- A call that ends with a new object. -/
def closeO (e : TypeId) (sz : Nat) (rows : List (List D)) (s : St) (d : D) : Prop := ∃ t ob, d = .ms t ob.gen rows.length ∧ s.H t = some ob ∧ ob.elem = e ∧ ob.sz = sz ∧ ob.cells = rows.flatten ∧ ob.keys = none ∧ s.T = []
def retO (P : Program) (rs : List ResultVar) (e : TypeId) (sz : Nat) (rows : List (List D)) : Exit → St → Prop
  | .normal, s => ∃ d, resD P s rs = some d ∧ closeO e sz rows s d
  | .ret, s => ∃ d, resD P s rs = some d ∧ closeO e sz rows s d
  | _, _ => False
theorem SpO.of_vc {f : FuncId} {fn : Func} {c : Code} {as : List D} {e : TypeId} {sz : Nat} {rows : List (List D)} {nt : Nat} (mu : List Nat) (rs : List ResultVar) (hf : P.funcs[f]? = some fn) (hb : fn.body = some c) (hn : (fn.name == "runtime.NumGoroutine") = false)
    (hnt : fn.ntmps = nt) (hrs : fn.results.toList = rs) (hle : as.length ≤ nt) (hcl : ∀ d ∈ rows.flatten, Cl d) (h : vc P mu c (retO P rs e sz rows) (st0 as nt)) : SpO P f as e sz rows := by
  subst hrs
  refine ⟨⟨fn, hf, hn, by rw [hb]; rfl⟩, fun w M vs hM hl hv => ?_⟩
  subst hnt
  have hr := Rep.start (Ts := []) none rfl hM hl hle (fun i d v hd hv' => (hv i d v hd hv').mono (view_le fun b => by rintro (k | ⟨_, k, _⟩); exact k; cases k)) (by simp) (by simp)
  refine calls_of_wp hf hb (wp_mono (vc_sound c _ hr h) fun x a w' ⟨s', g', M', h1, h2⟩ => ?_)
  have fin : ∀ d, resD P s' fn.results.toList = some d → closeO e sz rows s' d → a.defers = [] ∧ ∃ v, (results fn a.tmps).run P w' = .ok v w' ∧ ∃ (b c : Nat) (us : Array Value), Ending.returned v = .returned (.slice (some ⟨b, 0, none⟩) rows.length c) ∧ Below w.heap.size w w' ∧ w.heap.size ≤ b ∧ w'.heap[b]? = some (.cells us e (0, 0)) ∧ us.size = c * sz ∧ (c ≤ maxLen ∧ rows.length ≤ c) ∧
      rows.flatten.length ≤ us.size ∧ ∀ (j : Nat) (d : D), rows.flatten[j]? = some d → ∃ u, us[j]? = some u ∧ Rd (view w' (fun k => M k ∨ k = b) (fun _ => none) noN) d u := by
    rintro d hd ⟨t, ob, rfl, hob, rfl, rfl, hcs, hks, hT⟩
    obtain ⟨v, v1, v2⟩ := resD_sound h2 hd
    obtain ⟨_, b, c, us, hgt, hheap, hsz, hc, hlen, hcells⟩ := h2.obj t ob hob
    have hgt : g' t = some (ob.gen, b, c) := hgt
    cases v1 with | ms _ _ _ ad cap hg hx =>
    obtain ⟨rfl, rfl⟩ := hx b c hgt
    refine ⟨h2.defers, _, v2, b, cap, us, rfl, bs_below h2.below (by simp), ?_, hheap.cells hks, hsz hks, ⟨hc, hg.2⟩, by rw [← hcs]; exact hlen, fun j d hd => ?_⟩
    · rcases (h2.base _ _ _ _ hgt).1 with k | ⟨_, k, _⟩
      · exact k
      · cases k
    · rw [← hcs] at hd
      obtain ⟨u, u1, u2⟩ := hcells j d hd
      refine ⟨u, u1, u2.closed (fun b' o x k => ?_) (hcl d (by rw [← hcs]; exact List.mem_of_getElem? hd))⟩
      obtain ⟨k1, k2⟩ := view_free k
      refine view_mk (view_cell k) ?_ (by simp)
      rintro (q | rfl)
      · exact k1 ((h2.mm b').2 (.inl q))
      · exact k2 _ _ _ hgt
  cases x
  case normal => obtain ⟨d, hd, hz⟩ := h1; exact fin d hd hz
  case ret => obtain ⟨d, hd, hz⟩ := h1; exact fin d hd hz
  all_goals exact h1.elim

/-! ### Closing: what a call has built, as data that shares no memory -/
abbrev Us := List (TE ⊕ Nat)
def blk (g : Nat → Option (Nat × Nat × Nat)) : TE ⊕ Nat → List Nat
  | .inl te => te.F
  | .inr t => match g t with | some (_, b, _) => [b] | none => []
def inls : Us → List TE
  | [] => []
  | .inl te :: us => te :: inls us
  | .inr _ :: us => inls us
def inrs : Us → List Nat
  | [] => []
  | .inl _ :: us => inrs us
  | .inr t :: us => t :: inrs us
theorem mem_inls {te : TE} : ∀ {us : Us}, Sum.inl te ∈ us ↔ te ∈ inls us
  | [] => by simp [inls]
  | .inl te' :: us => by simp [inls, mem_inls (us := us)]
  | .inr t :: us => by simp [inls, mem_inls (us := us)]
theorem mem_inrs {t : Nat} : ∀ {us : Us}, Sum.inr t ∈ us ↔ t ∈ inrs us
  | [] => by simp [inrs]
  | .inl te' :: us => by simp [inrs, mem_inrs (us := us)]
  | .inr t :: us => by simp [inrs, mem_inrs (us := us)]
inductive C1 (H : Nat → Option Ob) : D → D → Us → Prop
  | sc (v : Value) : C1 H (.sc v) (.sc v) []
  | tr (te : TE) : C1 H (.sc te.u) te.d [.inl te]
  | nil (sz : Nat) : C1 H (.sc (.slice none 0 0)) (.sl sz []) []
  | emp (sz : Nat) : C1 H (.sl sz []) (.sl sz []) []
  | ms (t : Nat) (ob : Ob) (rows : List (List D)) (es : Nat → D) (Rs : Nat → Us) (hob : H t = some ob) (hks : ob.keys = none) (hsz : 0 < ob.sz) (hl : ∀ r ∈ rows, r.length = ob.sz)
      (h1 : ∀ (j : Nat) (d : D), rows.flatten[j]? = some d → ob.cells[j]? = some (es j)) (h : ∀ (j : Nat) (d : D), rows.flatten[j]? = some d → C1 H (es j) d (Rs j)) :
      C1 H (.ms t ob.gen rows.length) (.sl ob.sz rows) (.inr t :: (List.range rows.flatten.length).flatMap Rs)
inductive CL (R : D → D → Us → Prop) : List D → List D → Us → Prop
  | nil : CL R [] [] []
  | cons {d e : D} {us : Us} {ds es : List D} {us' : Us} (h : R d e us) (t : CL R ds es us') : CL R (d :: ds) (e :: es) (us ++ us')
inductive C2 (H : Nat → Option Ob) : D → D → Us → Prop
  | one {d e : D} {us : Us} (h : C1 H d e us) : C2 H d e us
  | ag {ds es : List D} {us : Us} (h : CL (C1 H) ds es us) : C2 H (.ag ds) (.ag es) us
inductive C3 (H : Nat → Option Ob) : D → D → Us → Prop
  | one {d e : D} {us : Us} (h : C2 H d e us) : C3 H d e us
  | tp {ds es : List D} {us : Us} (h : CL (C2 H) ds es us) : C3 H (.tp ds) (.tp es) us

theorem C1.sound (hr : Rep w0 M g s a w) {d e : D} {us : Us} (h : C1 s.H d e us) : (∀ te ∈ inls us, te ∈ s.T) → ∀ {v : Value}, Rd (view w M g s.n) d v → T1 w e v (us.flatMap (blk g)) := by
  induction h with
  | sc v => intro _ v hv; cases hv; exact .sc _
  | tr te =>
    intro hin v hv
    cases hv
    have := (hr.tree te (hin te (by simp [inls]))).1
    simpa [blk] using this
  | nil sz => intro _ v hv; cases hv; exact .nil sz
  | emp sz =>
    intro _ v hv
    generalize hd : D.sl sz [] = d at hv
    cases hv <;> cases hd
    · exact .nil sz
    · rename_i a cap hm; exact .emp sz a cap hm
    · rename_i hm _ _ _ _; exact .emp sz _ _ hm
  | ms t ob rows es Rs hob hks hsz hl h1 h ih =>
    intro hin v hv
    obtain ⟨hg, b, c, vs, hgt, hheap, hvs, hc, hlen, hcells⟩ := hr.obj t ob hob
    have hvs := hvs hks
    have hheap := hheap.cells hks
    cases hv with | ms _ _ _ ad cap _ hv =>
    obtain ⟨rfl, rfl⟩ := hv b c hgt
    have hcell : ∀ (j : Nat) (d : D), rows.flatten[j]? = some d → ∃ u, vs[j]? = some u ∧ Rd (view w M g s.n) (es j) u := fun j d hj => hcells _ _ (h1 j d hj)
    have hgt' : g t = some (ob.gen, b, cap) := hgt
    have hF : (Sum.inr t :: (List.range rows.flatten.length).flatMap Rs : Us).flatMap (blk g) = b :: (List.range rows.flatten.length).flatMap fun j => (Rs j).flatMap (blk g) := by
      rw [List.flatMap_cons, List.flatMap_assoc]
      simp [blk, hgt']
    rw [hF]
    refine .sl ob.sz rows b cap vs ob.elem (fun j => vs.getD j undef) _ hheap ?_ hc hvs hsz hl (fun j d hj => ?_) (fun j d hj => ?_)
    · have hfl := flatten_len hl
      have hle : rows.flatten.length ≤ vs.size := by
        rcases Nat.eq_zero_or_pos rows.flatten.length with h0 | h0
        · omega
        · obtain ⟨u, hu, _⟩ := hcell (rows.flatten.length - 1) _ (List.getElem?_eq_getElem (by omega))
          have := (Array.getElem?_eq_some_iff.1 hu).1; omega
      rw [hfl, hvs] at hle
      exact Nat.le_of_mul_le_mul_right hle hsz
    · obtain ⟨u, hu, _⟩ := hcell j d hj
      simp [Array.getD_eq_getD_getElem?, hu]
    · obtain ⟨u, hu, hR⟩ := hcell j d hj
      have := ih j d hj (fun te hte => hin te (mem_inls.1 (List.mem_cons_of_mem _ (List.mem_flatMap.2 ⟨j, List.mem_range.2 (List.getElem?_eq_some_iff.1 hj).1, mem_inls.2 hte⟩)))) hR
      simpa [Array.getD_eq_getD_getElem?, hu] using this
theorem cl_sound {R : D → D → Us → Prop} {Q : D → Value → List Nat → Prop} {V : View} (hT : TE → Prop) (hR : ∀ d e us, R d e us → (∀ te ∈ inls us, hT te) → ∀ v, Rd V d v → Q e v (us.flatMap (blk g))) {ds es : List D} {us : Us} (h : CL R ds es us) :
    (∀ te ∈ inls us, hT te) → ∀ (vs : List Value), ds.length = vs.length → (∀ (i : Nat) (d : D) (v : Value), ds[i]? = some d → vs[i]? = some v → Rd V d v) → TL Q es vs (us.flatMap (blk g)) := by
  have app : ∀ (a b : Us), inls (a ++ b) = inls a ++ inls b := by
    intro a b
    induction a with
    | nil => rfl
    | cons x a ih => cases x <;> simp [inls, ih]
  induction h with
  | nil => intro _ vs hl _; cases vs with | nil => exact .nil | cons => simp at hl
  | cons h _ ih =>
    intro hin vs hl hv
    cases vs with
    | nil => simp at hl
    | cons v vs =>
      rw [List.flatMap_append]
      rw [app] at hin
      exact .cons (hR _ _ _ h (fun te k => hin te (List.mem_append_left _ k)) v (hv 0 _ _ (by simp) (by simp))) (ih (fun te k => hin te (List.mem_append_right _ k)) vs (by simpa using hl) fun i d v h1 h2 => hv (i + 1) d v (by simpa using h1) (by simpa using h2))
theorem C2.sound (hr : Rep w0 M g s a w) {d e : D} {us : Us} (h : C2 s.H d e us) (hin : ∀ te ∈ inls us, te ∈ s.T) {v : Value} (hv : Rd (view w M g s.n) d v) : T2 w e v (us.flatMap (blk g)) := by
  cases h with
  | one h => exact .one (h.sound hr hin hv)
  | ag h => cases hv with | ag _ vs hl hv => exact .ag (cl_sound (· ∈ s.T) (fun d e us h hin v hv => h.sound hr hin hv) h hin vs hl hv)
theorem C3.sound (hr : Rep w0 M g s a w) {d e : D} {us : Us} (h : C3 s.H d e us) (hin : ∀ te ∈ inls us, te ∈ s.T) {v : Value} (hv : Rd (view w M g s.n) d v) : T3 w e v (us.flatMap (blk g)) := by
  cases h with
  | one h => exact .one (h.sound hr hin hv)
  | tp h => cases hv with | tp _ vs hl hv => exact .tp (cl_sound (· ∈ s.T) (fun d e us h hin v hv => h.sound hr hin hv) h hin vs hl hv)
theorem mem_blk (hr : Rep w0 M g s a w) : ∀ (us : Us), (∀ te ∈ inls us, te ∈ s.T) → ∀ b ∈ us.flatMap (blk g), (M b ∧ ∃ te ∈ inls us, b ∈ te.F) ∨ ∃ t x c, t ∈ inrs us ∧ g t = some (x, b, c) := fun us hin b hb => by
  obtain ⟨y, hy, hb⟩ := List.mem_flatMap.1 hb
  cases y with
  | inl te =>
    have hm := mem_inls.1 hy
    exact .inl ⟨(hr.mm b).2 (.inr ⟨te, hin te hm, hb⟩), te, hm, hb⟩
  | inr t =>
    simp only [blk] at hb
    split at hb
    · rename_i x b' c hg
      simp only [List.mem_singleton] at hb
      subst hb
      exact .inr ⟨t, x, c, mem_inrs.1 hy, hg⟩
    · cases hb
theorem nodup_blk (hr : Rep w0 M g s a w) : ∀ (us : Us), (∀ te ∈ inls us, te ∈ s.T) → (bl (inls us)).Nodup → (inrs us).Nodup → (us.flatMap (blk g)).Nodup
  | [], _, _, _ => by simp
  | .inl te :: us, hin, h1, h2 => by
    have hin' : ∀ te' ∈ inls us, te' ∈ s.T := fun te' k => hin te' (by simp [inls, k])
    have h1' : (te.F ++ bl (inls us)).Nodup := by simpa [inls, bl] using h1
    rw [List.nodup_append] at h1'
    rw [List.flatMap_cons, List.nodup_append]
    refine ⟨h1'.1, nodup_blk hr us hin' h1'.2.1 h2, fun x hx y hy e => ?_⟩
    subst e
    rcases mem_blk hr us hin' x hy with ⟨_, te', k1, k2⟩ | ⟨t, x', c, _, k⟩
    · exact h1'.2.2 x hx x (mem_bl.2 ⟨te', k1, k2⟩) rfl
    · exact (hr.m0 x ((hr.mm x).2 (.inr ⟨te, hin te (by simp [inls]), hx⟩))).2 _ _ _ k
  | .inr t :: us, hin, h1, h2 => by
    have h2' := List.nodup_cons.1 (show (t :: inrs us).Nodup from h2)
    rw [List.flatMap_cons, List.nodup_append]
    refine ⟨?_, nodup_blk hr us hin h1 h2'.2, fun x hx y hy e => ?_⟩
    · simp only [blk]; split <;> simp
    · subst e
      simp only [blk] at hx
      split at hx
      · rename_i x' b' c' hg
        simp only [List.mem_singleton] at hx
        subst hx
        rcases mem_blk hr us hin x hy with ⟨k, _⟩ | ⟨t', x'', c, k1, k2⟩
        · exact (hr.m0 x k).2 _ _ _ hg
        · have := hr.inj _ _ _ _ _ _ _ hg k2
          subst this
          exact h2'.1 k1
      · cases hx

/-- What a call with trees ends with. -/
def closeK (Ts : List TE) (ds : List D) (r : D) (s : St) (d : D) : Prop :=
  ∃ (us : Us) (rest : List TE), C3 s.H d r us ∧ s.T.Perm (upT Ts ds ++ inls us ++ rest) ∧ (inrs us).Nodup
def retG (P : Program) (rs : List ResultVar) (Ts : List TE) (ds : List D) (r : D) : Exit → St → Prop
  | .normal, s => ∃ d, resD P s rs = some d ∧ closeK Ts ds r s d
  | .ret, s => ∃ d, resD P s rs = some d ∧ closeK Ts ds r s d
  | _, _ => False
theorem SpG.of_vc {f : FuncId} {fn : Func} {c : Code} {as : List D} {Ts : List TE} {ds : List D} {r : D} {nt : Nat} (mu : List Nat) (rs : List ResultVar) (hf : P.funcs[f]? = some fn) (hb : fn.body = some c) (hn : (fn.name == "runtime.NumGoroutine") = false)
    (hnt : fn.ntmps = nt) (hrs : fn.results.toList = rs) (hle : as.length ≤ nt) (hlen : ds.length = Ts.length) (h : vc P mu c (retG P rs Ts ds r) (stT as nt Ts)) : SpG P f as Ts ds r := by
  subst hrs
  refine ⟨⟨fn, hf, hn, by rw [hb]; rfl⟩, hlen, fun w M vs hM hl hv ht hnd => ?_⟩
  subst hnt
  have hr := Rep.start none rfl hM hl hle hv ht hnd
  refine calls_of_wp hf hb (wp_mono (vc_sound c _ hr h) fun e a w' ⟨s', g', M', h1, h2⟩ => ?_)
  have fin : ∀ d, resD P s' fn.results.toList = some d → closeK Ts ds r s' d → a.defers = [] ∧ ∃ v, (results fn a.tmps).run P w' = .ok v w' ∧ ∃ u, Ending.returned v = .returned u ∧ (mkB w M fun b => ∃ e ∈ Ts, b ∈ e.F).Ok w' ∧ (∀ e ∈ upT Ts ds, T1 w' e.d e.u e.F) ∧ ∃ F, T3 w' r u F ∧ F.Nodup ∧ ∀ b ∈ F, w.heap.size ≤ b := by
    rintro d hd ⟨us, rest, hc, hp, hnr⟩
    obtain ⟨v, v1, v2⟩ := resD_sound h2 hd
    have hin : ∀ te ∈ inls us, te ∈ s'.T := fun te k => hp.mem_iff.2 (by simp [k])
    have hnd' : (bl (upT Ts ds ++ inls us ++ rest)).Nodup := (hp.flatMap_right _).nodup h2.nd
    rw [bl_app, bl_app, List.nodup_append, List.nodup_append] at hnd'
    have hX : ∀ b, (∃ e ∈ Ts, b ∈ e.F) → b ∈ bl (upT Ts ds) := fun b k => by rw [upT_bl Ts ds hlen]; exact mem_bl.2 k
    refine ⟨h2.defers, v, v2, v, rfl, ⟨h2.below.os, h2.below.tape, h2.below.output, h2.below.size, h2.below.block⟩, fun e he => (h2.tree e (hp.mem_iff.2 (by simp [he]))).1, _, hc.sound h2 hin v1, nodup_blk h2 us hin hnd'.1.2.1 hnr, fun b hb => ?_⟩
    rcases mem_blk h2 us hin b hb with ⟨_, te, k1, k2⟩ | ⟨t, x, c, _, k⟩
    · rcases (h2.tree te (hin te k1)).2 b k2 with k | k
      · exact k
      · exact absurd rfl (hnd'.1.2.2 b (hX b k) b (mem_bl.2 ⟨te, k1, k2⟩))
    · rcases (h2.base _ _ _ _ k).1 with k' | k'
      · exact k'
      · obtain ⟨e, he, hbe⟩ := mem_bl.1 (hX b k')
        exact absurd k ((h2.m0 b ((h2.mm b).2 (.inr ⟨e, hp.mem_iff.2 (by simp [he]), hbe⟩))).2 _ _ _)
  cases e
  case normal => obtain ⟨d, hd, hz⟩ := h1; exact fin d hd hz
  case ret => obtain ⟨d, hd, hz⟩ := h1; exact fin d hd hz
  all_goals exact h1.elim
end

/-! ### The walk's own equations: what stands behind is not looked into -/
def vcK (P : Program) (mu : List Nat) (c : Code) (Q : Exit → St → Prop) : St → Prop := vc P mu c Q
def opsK (P : Program) (mu : List Nat) (ops : List (Option Nat)) (l : List Oper) (K : St → Prop) : St → Prop := vcOps P mu ops l K
def opsQK (P : Program) (ops : List (Option Nat)) (l : List Oper) (K : St → Prop) : St → Prop := vcOpsQ P ops l K
def opK (P : Program) (mu : List Nat) (op : Op) (dst : Option Nat) (K : St → Prop) : St → Prop := vcOp P mu op dst K
def opQK (P : Program) (op : Op) (dst : Option Nat) (K : St → Prop) : St → Prop := vcOpQ P op dst K
def outK (Q : Exit → St → Prop) (e : Exit) : St → Prop := Q e
def loopV (P : Program) (mu : List Nat) (c : Code) (Q : Exit → St → Prop) (s : St) : Prop := loopQ (vc P mu c) Q s
section
variable {P : Program} {mu : List Nat} {ops : List (Option Nat)} {l : List Oper} {K : St → Prop} {Q : Exit → St → Prop} {s : St} {a b c : Code} {op : Op} {dst : Option Nat}
theorem vcK_eq : vcK P mu c Q s = vc P mu c Q s := Eq.trans rfl rfl
theorem opsK_eq : opsK P mu ops l K s = vcOps P mu ops l K s := Eq.trans rfl rfl
theorem opsQK_eq : opsQK P ops l K s = vcOpsQ P ops l K s := Eq.trans rfl rfl
theorem opK_eq : opK P mu op dst K s = vcOp P mu op dst K s := Eq.trans rfl rfl
theorem opQK_eq : opQK P op dst K s = vcOpQ P op dst K s := Eq.trans rfl rfl
theorem outK_eq {e : Exit} : outK Q e s = Q e s := Eq.trans rfl rfl
theorem vc_skip : vc P mu .skip Q s = Q .normal s := Eq.trans rfl rfl
theorem vc_region {id : Nat} {os : Array Oper} : vc P mu (.region id os false) Q s = vcOps P mu (dsts os.toList) os.toList (outK Q .normal) s := Eq.trans rfl rfl
theorem vc_draw {id : Nat} {os : Array Oper} (h : memL os.toList = false) : vc P mu (.region id os true) Q s = drawK P os (vcOpsQ P (dsts os.toList) os.toList (outK Q .normal) s) (outK Q .normal) s := by
  show (if memL os.toList = true then _ else _) = _
  rw [h]; rfl
theorem vc_drawM {id : Nat} {os : Array Oper} (h : memL os.toList = true) : vc P mu (.region id os true) Q s = drawM P mu os (outK Q .normal) s := by
  show (if memL os.toList = true then _ else _) = _
  rw [h]; rfl
def opsMK (P : Program) (R : Nat → Bool × D) (mu : List Nat) (nw : Nw) (l : List Oper) (K : St → Prop) : St → Prop := vcOpsM P R mu nw l K
theorem opsMK_eq {R : Nat → Bool × D} {nw : Nw} {l : List Oper} : opsMK P R mu nw l K s = vcOpsM P R mu nw l K s := Eq.trans rfl rfl
theorem opsM_nil {R : Nat → Bool × D} {nw : Nw} : vcOpsM P R mu nw [] K s = K s := Eq.trans rfl rfl
theorem opsM_cons {R : Nat → Bool × D} {nw : Nw} {d : Option Nat} {ty : TypeId} {pos : String} {af : Array Edge} {gd : Option (Nat × Bool)} {rest : List Oper} : vcOpsM P R mu nw (⟨d, op, ty, pos, af, gd⟩ :: rest) K s = vcOpM P R mu nw op d (opsMK P R mu nw rest K) s := Eq.trans rfl rfl
theorem detK_some {p : Prop} {H : Nat → Option Ob} {n : Nat → Nat} {d : D} : detK s dst K (some (p, H, n, d)) = (p ∧ K ({ s with H := H, n := n }.put dst d)) := Eq.trans rfl rfl
theorem vc_seq : vc P mu (.seq a b) Q s = vc P mu a (thenQ (vcK P mu b Q) Q) s := Eq.trans rfl rfl
theorem vc_cond {x : Operand} : vc P mu (.cond x a b) Q s = condK (s.ev x) (vcK P mu a Q) (vcK P mu b Q) s := Eq.trans rfl rfl
theorem vc_block {id : Nat} : vc P mu (.block id c) Q s = vc P mu c (blockQ id Q) s := Eq.trans rfl rfl
theorem vc_loop : vc P mu (.loop c) Q s = loopV P mu c Q s := Eq.trans rfl rfl
theorem vc_exit {id : Nat} : vc P mu (.exit id) Q s = Q (.exit id) s := Eq.trans rfl rfl
theorem vc_ret : vc P mu .ret Q s = Q .ret s := Eq.trans rfl rfl
theorem ops_nil : vcOps P mu ops [] K s = K s := Eq.trans rfl rfl
theorem ops_cons {d : Option Nat} {ty : TypeId} {pos : String} {af : Array Edge} {rest : List Oper} : vcOps P mu ops (⟨d, op, ty, pos, af, none⟩ :: rest) K s = ghK (gh mu d) (opK P mu op d (opsK P mu ops rest K)) s := Eq.trans rfl rfl
theorem gh_nil {d : Option Nat} : gh [] d = false := Eq.trans rfl rfl
theorem gh_none {x : Nat} {l : List Nat} : gh (x :: l) none = false := Eq.trans rfl rfl
theorem gh_cons {x t : Nat} {l : List Nat} : gh (x :: l) (some t) = (x == t + 1000000 || gh l (some t)) := Eq.trans rfl rfl
theorem ghK_ff {X : St → Prop} : ghK false X s = X s := Eq.trans rfl rfl
theorem ghK_tt {X : St → Prop} : ghK true X s = GK X s := Eq.trans rfl rfl
theorem ops_guard {d : Option Nat} {ty : TypeId} {pos : String} {af : Array Edge} {rest : List Oper} {j : Nat} {want : Bool} :
    vcOps P mu ops (⟨d, op, ty, pos, af, some (j, want)⟩ :: rest) K s = guardK (guardD ops s j) want (opK P mu op d (opsK P mu ops rest K)) (skipK d (opsK P mu ops rest K)) s := Eq.trans rfl rfl
theorem opsQ_nil : vcOpsQ P ops [] K s = K s := Eq.trans rfl rfl
theorem opsQ_cons {d : Option Nat} {ty : TypeId} {pos : String} {af : Array Edge} {rest : List Oper} : vcOpsQ P ops (⟨d, op, ty, pos, af, none⟩ :: rest) K s = vcOpQ P op d (opsQK P ops rest K) s := Eq.trans rfl rfl
theorem opsQ_guard {d : Option Nat} {ty : TypeId} {pos : String} {af : Array Edge} {rest : List Oper} {j : Nat} {want : Bool} :
    vcOpsQ P ops (⟨d, op, ty, pos, af, some (j, want)⟩ :: rest) K s = guardK (guardD ops s j) want (opQK P op d (opsQK P ops rest K)) (skipK d (opsQK P ops rest K)) s := Eq.trans rfl rfl
theorem then_normal {next : St → Prop} : thenQ next Q .normal s = next s := Eq.trans rfl rfl
theorem then_exit {next : St → Prop} {id : Nat} : thenQ next Q (.exit id) s = Q (.exit id) s := Eq.trans rfl rfl
theorem then_ret {next : St → Prop} : thenQ next Q .ret s = Q .ret s := Eq.trans rfl rfl
theorem block_normal {id : Nat} : blockQ id Q .normal s = Q .normal s := Eq.trans rfl rfl
theorem block_ret {id : Nat} : blockQ id Q .ret s = Q .ret s := Eq.trans rfl rfl
theorem block_exit {id id' : Nat} : blockQ id Q (.exit id') s = if id' = id then Q .normal s else Q (.exit id') s := Eq.trans rfl rfl
theorem st_put {e : Nat → D} {H : Nat → Option Ob} {n : Nat → Nat} {nt t : Nat} {T : List TE} {d : D} (h : t < nt) : St.put ⟨e, H, n, nt, T⟩ (some t) d = ⟨setE e t d, H, n, nt, T⟩ := by simp [St.put, h]
theorem st_put_none {s : St} {d : D} : St.put s none d = s := Eq.trans rfl rfl
theorem putK_some {d : D} : putK s dst K (some d) = K (s.put dst d) := Eq.trans rfl rfl
theorem memK_some {t : Nat} {p : Prop} {s1 : St} {d : D} : memK t K (some (p, s1, d)) = (p ∧ K (s1.put (some t) d)) := Eq.trans rfl rfl
theorem stoK_some {p : Prop} {s1 : St} : stoK dst K (some (p, s1)) = (p ∧ K (s1.put dst (.sc (.tuple #[])))) := Eq.trans rfl rfl
theorem skipK_eq : skipK dst K s = K (s.put dst (.sc (.tuple #[]))) := Eq.trans rfl rfl
end

/-! ### Splitting -/
theorem guardK_split {b want : Bool} {run skip : St → Prop} {s : St} (h1 : b = want → run s) (h2 : b = !want → skip s) : guardK (.sc (.bool b)) want run skip s := by
  unfold guardK
  by_cases h : b = want
  · simpa [h] using h1 h
  · simp only [h, if_false]; exact h2 (by cases b <;> cases want <;> simp_all)
theorem guardK_tt {run skip : St → Prop} {s : St} : guardK (.sc (.bool true)) true run skip s = run s := by simp [guardK]
theorem guardK_ff {run skip : St → Prop} {s : St} : guardK (.sc (.bool false)) false run skip s = run s := by simp [guardK]
theorem guardK_tf {run skip : St → Prop} {s : St} : guardK (.sc (.bool true)) false run skip s = skip s := by simp [guardK]
theorem guardK_ft {run skip : St → Prop} {s : St} : guardK (.sc (.bool false)) true run skip s = skip s := by simp [guardK]
theorem guardK_tup {want : Bool} {run skip : St → Prop} {s : St} {vs : Array Value} : guardK (.sc (.tuple vs)) want run skip s = skip s := Eq.trans rfl rfl
theorem condK_tt {X Y : St → Prop} {s : St} : condK (.sc (.bool true)) X Y s = X s := by simp [condK]
theorem condK_ff {X Y : St → Prop} {s : St} : condK (.sc (.bool false)) X Y s = Y s := by simp [condK]
theorem Fz.bool {H : Nat → Option Ob} {b b' : Bool} (h : b = b') : Fz H (.sc (.bool b)) (.sc (.bool b')) := by rw [h]; exact .cl _ (.sc _)
theorem Fz.int {H : Nat → Option Ob} {k : IntKind} {n m : Int} (h : n = m) : Fz H (.sc (.int k n)) (.sc (.int k m)) := by rw [h]; exact .cl _ (.sc _)
theorem Fz.val {H : Nat → Option Ob} {n m : Value} (h : n = m) : Fz H (.sc n) (.sc m) := by rw [h]; exact .cl _ (.sc _)
theorem Fz.same {H : Nat → Option Ob} {d e : D} (h : d = e) (hc : Cl d) : Fz H d e := by rw [← h]; exact .cl _ hc
theorem Fz.tp2 {H : Nat → Option Ob} {a b a' b' : D} (h : Fz H a a') (k : Fz H b b') : Fz H (.tp [a, b]) (.tp [a', b']) :=
  .tp _ _ rfl fun i d e hd he => by
    match i, hd, he with
    | 0, hd, he => simp at hd he; subst hd; subst he; exact h
    | 1, hd, he => simp at hd he; subst hd; subst he; exact k
theorem Fz.tp3 {H : Nat → Option Ob} {a b c a' b' c' : D} (h : Fz H a a') (k : Fz H b b') (l : Fz H c c') : Fz H (.tp [a, b, c]) (.tp [a', b', c']) :=
  .tp _ _ rfl fun i d e hd he => by
    match i, hd, he with
    | 0, hd, he => simp at hd he; subst hd; subst he; exact h
    | 1, hd, he => simp at hd he; subst hd; subst he; exact k
    | 2, hd, he => simp at hd he; subst hd; subst he; exact l
theorem retQ_ret {P : Program} {rs : List ResultVar} {r : D} {s : St} (d : D) (h : resD P s rs = some d) (hf : Fz s.H d r) : retQ P rs r .ret s := ⟨d, h, hf⟩
theorem retQ_normal {P : Program} {rs : List ResultVar} {r : D} {s : St} (d : D) (h : resD P s rs = some d) (hf : Fz s.H d r) : retQ P rs r .normal s := ⟨d, h, hf⟩
theorem condK_split {b : Bool} {X Y : St → Prop} {s : St} (h1 : b = true → X s) (h2 : b = false → Y s) : condK (.sc (.bool b)) X Y s := ⟨h1, h2⟩
theorem callK_intro {P : Program} {s : St} {f : FuncId} {first caps args : List D} {dst : Option Nat} {K : St → Prop} (r : D) (h : Sp P f (first ++ args ++ caps) r) (hcl : ∀ d ∈ first ++ args ++ caps, Cl d) (hK : K (s.put dst r)) :
    callK P s (.fn f first caps) args dst K := .inl ⟨r, .inl ⟨h, fun _ d hd => hcl d (List.mem_of_getElem? hd)⟩, hK⟩
theorem callQ_intro {P : Program} {s : St} {f : FuncId} {first caps args : List D} {dst : Option Nat} {K : St → Prop} (r : D) (h : Sp P f (first ++ args ++ caps) r) (hcl : ∀ d ∈ first ++ args ++ caps, Cl d) (_ : r = r) (hK : K (s.put dst r)) :
    callQ P s (.fn f first caps) args dst K := ⟨r, .inl ⟨h, fun _ d hd => hcl d (List.mem_of_getElem? hd)⟩, hK⟩
/-- A call in such a region that reads trees and objects of the call's own. -/
theorem callQ_read {P : Program} {s : St} {f : FuncId} {first caps args : List D} {dst : Option Nat} {K : St → Prop} (bs : List D) (r : D) (h : Sp P f bs r) (hl : bs.length = (first ++ args ++ caps).length)
    (hfb : ∀ x ∈ (first ++ args ++ caps).zip bs, Fb s.H s.T x.1 x.2) (hdet : (detD r).isSome = true) (hK : K (s.put dst r)) : callQ P s (.fn f first caps) args dst K :=
  ⟨r, .inr ⟨bs, hl, fun i d e hd he => hfb (d, e) (List.mem_iff_getElem?.2 ⟨i, by rw [List.getElem?_zip_eq_some]; exact ⟨hd, he⟩⟩), h, hdet⟩, hK⟩
theorem drawM_intro {P : Program} {mu : List Nat} {ops : Array Oper} {K : St → Prop} {s : St} (R : Nat → Bool × D) (L : List Nat) (h1 : P.follows .mixedOrders = true) (h2 : memB L ops = true) (h : opsMK P R mu ⟨newsL ops.toList, L⟩ ops.toList K s) : drawM P mu ops K s := .inl ⟨h1, R, L, h2, h⟩
theorem callM_sp {P : Program} {R : Nat → Bool × D} {s : St} {f : FuncId} {first caps args : List D} {t : Nat} {K : St → Prop} (r : D) (hR : R t = (false, r)) (h : Sp P f (first ++ args ++ caps) r) (hcl : ∀ d ∈ first ++ args ++ caps, Cl d) (hK : K (s.put (some t) r)) : callM P R s (.fn f first caps) args (some t) K :=
  callM_iff.2 ⟨⟨fun _ d hd => hcl d (List.mem_of_getElem? hd), by rw [hR]; exact h⟩, ⟨r, [], by rw [hR]; exact ⟨rfl, rfl⟩⟩, fun e T hO => by rw [hR] at hO; obtain ⟨rfl, rfl⟩ := hO; simpa using hK⟩
theorem callM_new {P : Program} {R : Nat → Bool × D} {s : St} {f : FuncId} {first caps args : List D} {t : Nat} {K : St → Prop} (r : D) (hR : R t = (true, r)) (h : SpG P f (first ++ args ++ caps) [] [] r) (hcl : ∀ d ∈ first ++ args ++ caps, Cl d) (h0 : ∃ e T, O3 r e T) (hK : ∀ e T, O3 r e T → K ({ s with T := s.T ++ T }.put (some t) e)) : callM P R s (.fn f first caps) args (some t) K :=
  callM_iff.2 ⟨⟨fun _ d hd => hcl d (List.mem_of_getElem? hd), by rw [hR]; exact h⟩, by rw [hR]; exact h0, fun e T hO => by rw [hR] at hO; exact hK e T hO⟩
theorem drawK_intro {P : Program} {ops : Array Oper} {p : Prop} {K : St → Prop} {s : St} (h1 : P.follows .mixedOrders = true) (h2 : Region.lexB .any ops = true) (h : p) : drawK P ops p K s := .inl ⟨h1, h2, h⟩

/-- A loop by what holds at each round's head and a measure. -/
theorem loopK_inv {F : (St → Prop) → St → Prop} (hF : ∀ (I J : St → Prop) (s : St), (∀ s, I s → J s) → F I s → F J s) (I : St → Prop) (μ : St → Nat) {s : St} (h0 : I s) (round : ∀ s, I s → F (fun s' => I s' ∧ μ s' < μ s) s) : loopK F s := by
  have key : ∀ n s, μ s ≤ n → I s → iterK F (n + 1) s := by
    intro n
    induction n with
    | zero =>
      intro s hn hI
      exact hF _ _ s (fun s' ⟨_, h2⟩ => by omega) (round s hI)
    | succ n ih =>
      intro s hn hI
      exact hF _ _ s (fun s' ⟨h1, h2⟩ => ih s' (by omega) h1) (round s hI)
  exact ⟨_, key _ s (Nat.le_refl _) h0⟩

theorem vcOp_mono {P : Program} {mu : List Nat} {op : Op} {dst : Option Nat} {K K' : St → Prop} (hK : ∀ s, K s → K' s) {s : St} (h : vcOp P mu op dst K s) : vcOp P mu op dst K' s := by
  have put : ∀ x, putK s dst K x → putK s dst K' x := fun x h => by cases x <;> first | exact h | exact hK _ h
  have mem : ∀ t x, memK t K x → memK t K' x := fun t x h => by
    cases x with
    | none => exact h
    | some q => exact ⟨h.1, hK _ h.2⟩
  have sto : ∀ x, stoK dst K x → stoK dst K' x := fun x h => by
    cases x with
    | none => exact h
    | some q => exact ⟨h.1, hK _ h.2⟩
  have cal : ∀ f args, callK P s f args dst K → callK P s f args dst K' := fun f args h => by
    unfold callK at *
    split at h
    · rcases h with ⟨r, h1, h2⟩ | ⟨as, Ts, rest, ds, r, h1, h2, h3, h4, h5⟩ | ⟨t, e, sz, rows, h1, h2, h3, h4⟩ | h
      rotate_left 2
      · exact .inr (.inr (.inl ⟨t, e, sz, rows, h1, h2, h3, hK _ h4⟩))
      · refine .inr (.inr (.inr fun w0 M g a w env hr vs hl hv => ?_))
        obtain ⟨k1, k2⟩ := h w0 M g a w env hr vs hl hv
        exact ⟨k1, k2.mono fun e w' ⟨v, d, H, n, T, g', M', he, hr', hd, q⟩ => ⟨v, d, H, n, T, g', M', he, hr', hd, hK _ q⟩⟩
      · exact .inl ⟨r, h1, hK _ h2⟩
      · exact .inr <| .inl ⟨as, Ts, rest, ds, r, h1, h2, h3, h4, fun e T' h => let ⟨Tn, k1, k2⟩ := h5 e T' h; ⟨Tn, k1, hK _ k2⟩⟩
    · exact h
  cases op
  case call c =>
    obtain ⟨callee, args, argTypes⟩ := c
    cases callee
    case value f => (simp only [vcOp] at h ⊢; exact cal _ _ h)
    case builtin b =>
      cases b
      case append =>
        cases dst with
        | none => exact h
        | some t => (simp only [vcOp] at h ⊢; exact mem _ _ h)
      all_goals (simp only [vcOp] at h ⊢; exact put _ h)
    all_goals (simp only [vcOp] at h ⊢; exact put _ h)
  case store => (simp only [vcOp] at h ⊢; exact sto _ h)
  case mapUpdate => (simp only [vcOp] at h ⊢; exact sto _ h)
  case box => cases dst with | none => exact h | some t => (simp only [vcOp] at h ⊢; exact mem _ _ h)
  case alloc => cases dst with | none => exact h | some t => (simp only [vcOp] at h ⊢; exact mem _ _ h)
  case makeMap => cases dst with | none => exact h | some t => (simp only [vcOp] at h ⊢; exact mem _ _ h)
  case buildSlice => cases dst with | none => exact h | some t => (simp only [vcOp] at h ⊢; exact mem _ _ h)
  case makeSlice => cases dst with | none => exact h | some t => (simp only [vcOp] at h ⊢; exact mem _ _ h)
  all_goals (simp only [vcOp] at h ⊢; exact put _ h)
theorem vcOpQ_mono {P : Program} {op : Op} {dst : Option Nat} {K K' : St → Prop} (hK : ∀ s, K s → K' s) {s : St} (h : vcOpQ P op dst K s) : vcOpQ P op dst K' s := by
  have put : ∀ x, putK s dst K x → putK s dst K' x := fun x h => by cases x <;> first | exact h | exact hK _ h
  have cal : ∀ f args, callQ P s f args dst K → callQ P s f args dst K' := fun f args h => by
    unfold callQ at *
    split at h
    · obtain ⟨r, h1, h2⟩ := h; exact ⟨r, h1, hK _ h2⟩
    · exact h
  cases op
  case call c =>
    obtain ⟨callee, args, argTypes⟩ := c
    cases callee
    case value f => (simp only [vcOpQ] at h ⊢; exact cal _ _ h)
    all_goals (simp only [vcOpQ] at h ⊢; exact put _ h)
  all_goals (simp only [vcOpQ] at h ⊢; exact put _ h)
theorem guardK_mono {d : D} {want : Bool} {run run' skip skip' : St → Prop} {s : St} (h1 : run s → run' s) (h2 : skip s → skip' s) (h : guardK d want run skip s) : guardK d want run' skip' s := by
  unfold guardK at *
  split at h
  · split at h
    · rename_i hb; rw [if_pos hb]; exact h1 h
    · rename_i hb; rw [if_neg hb]; exact h2 h
  · exact h2 h
  · exact h
theorem vcOps_mono {P : Program} {mu : List Nat} {ops : List (Option Nat)} {K K' : St → Prop} (hK : ∀ s, K s → K' s) : ∀ (l : List Oper) {s : St}, vcOps P mu ops l K s → vcOps P mu ops l K' s
  | [], s, h => hK s h
  | o :: rest, s, h => by
    simp only [vcOps] at h ⊢
    split
    · rename_i hg; simp only [hg] at h
      unfold ghK at h ⊢
      split
      · rename_i hb; simp only [hb] at h; exact GK.mono (fun s h => vcOp_mono (fun s => vcOps_mono hK rest) h) h
      · rename_i hb; simp only [hb] at h; exact vcOp_mono (fun s => vcOps_mono hK rest) h
    · rename_i j want hg; simp only [hg] at h
      exact guardK_mono (vcOp_mono (fun s => vcOps_mono hK rest)) (vcOps_mono hK rest) h
theorem vcOpsQ_mono {P : Program} {ops : List (Option Nat)} {K K' : St → Prop} (hK : ∀ s, K s → K' s) : ∀ (l : List Oper) {s : St}, vcOpsQ P ops l K s → vcOpsQ P ops l K' s
  | [], s, h => hK s h
  | o :: rest, s, h => by
    simp only [vcOpsQ] at h ⊢
    split
    · rename_i hg; simp only [hg] at h; exact vcOpQ_mono (fun s => vcOpsQ_mono hK rest) h
    · rename_i j want hg; simp only [hg] at h
      exact guardK_mono (vcOpQ_mono (fun s => vcOpsQ_mono hK rest)) (vcOpsQ_mono hK rest) h
theorem drawX_mono {P : Program} {ops : Array Oper} {K K' : St → Prop} (hK : ∀ s, K s → K' s) {s : St} (h : drawX P ops K s) : drawX P ops K' s :=
  ⟨h.1, fun w0 M g a w Q hQ hr => h.2 w0 M g a w Q (fun a w ⟨s, g, M, k1, k2⟩ => hQ a w ⟨s, g, M, hK _ k1, k2⟩) hr⟩
theorem vc_mono {P : Program} {mu : List Nat} : ∀ (c : Code) {Q Q' : Exit → St → Prop} (_ : ∀ e s, Q e s → Q' e s) {s : St}, vc P mu c Q s → vc P mu c Q' s
  | .skip, _, _, hQ, s, h => hQ _ _ h
  | .region id ops draw, _, _, hQ, s, h => by
    cases draw with
    | false => exact vcOps_mono (hQ .normal) _ h
    | true =>
      simp only [vc, if_true] at h ⊢
      split
      · rename_i hm
        rw [if_pos hm] at h
        rcases h with ⟨q1, R, L, q2, q3⟩ | h
        · exact .inl ⟨q1, R, L, q2, vcOpsM_mono (hQ .normal) _ q3⟩
        · exact .inr (drawX_mono (hQ .normal) h)
      · rename_i hm
        rw [if_neg hm] at h
        rcases h with h | h
        · exact .inl ⟨h.1, h.2.1, vcOpsQ_mono (hQ .normal) _ h.2.2⟩
        · exact .inr (drawX_mono (hQ .normal) h)
  | .seq x y, _, _, hQ, s, h => vc_mono x (fun e s h => by
      cases e
      case normal => exact vc_mono y hQ h
      all_goals exact hQ _ _ h) h
  | .cond c x y, _, _, hQ, s, h => by
    simp only [vc, condK] at h ⊢
    split
    · rename_i b hb; simp only [hb] at h; exact ⟨fun e => vc_mono x hQ (h.1 e), fun e => vc_mono y hQ (h.2 e)⟩
    · rename_i hb
      split at h
      · rename_i b hb'; exact (hb b hb').elim
      · exact h
  | .block id c, _, _, hQ, s, h => vc_mono c (fun e s h => by
      cases e
      case exit id' =>
        simp only [blockQ] at h ⊢
        split
        · rename_i hi; rw [if_pos hi] at h; exact hQ _ _ h
        · rename_i hi; rw [if_neg hi] at h; exact hQ _ _ h
      all_goals exact hQ _ _ h) h
  | .loop c, Q, Q', hQ, s, h => by
    obtain ⟨n, hn⟩ := h
    refine ⟨n, ?_⟩
    have key : ∀ n s, iterK (fun I => vc P mu c (thenQ (GK I) Q)) n s → iterK (fun I => vc P mu c (thenQ (GK I) Q')) n s := by
      intro n
      induction n with
      | zero => intro s h; exact h
      | succ n ih =>
        intro s h
        exact vc_mono c (fun e s h => by
          cases e
          case normal => exact GK.mono (fun s h => ih s h) h
          all_goals exact hQ _ _ h) h
    exact key n s hn
  | .exit id, _, _, hQ, s, h => hQ _ _ h
  | .ret, _, _, hQ, s, h => hQ _ _ h
  | .rangeFunc .., _, _, _, _, h => h.elim
  | .scope _, _, _, _, _, h => h.elim
  | .label _, _, _, _, _, h => h.elim
  | .goto _, _, _, _, _, h => h.elim
  | .refuse _, _, _, _, _, h => h.elim

/-- The loop rule at a code. -/
theorem loop_invG {P : Program} {mu : List Nat} {c : Code} {Q : Exit → St → Prop} (I : St → Prop) (μ : St → Nat) {s : St} (h0 : I s) (round : ∀ s, I s → vc P mu c (thenQ (GK fun s' => I s' ∧ μ s' < μ s) Q) s) :
    loopV P mu c Q s :=
  loopK_inv (F := fun J => vc P mu c (thenQ (GK J) Q)) (fun I J s h k => vc_mono c (fun e s k => by
    cases e
    case normal => exact GK.mono h k
    all_goals exact k) k) I μ h0 round
theorem loop_inv {P : Program} {mu : List Nat} {c : Code} {Q : Exit → St → Prop} (I : St → Prop) (μ : St → Nat) {s : St} (h0 : I s) (round : ∀ s, I s → vc P mu c (thenQ (fun s' => I s' ∧ μ s' < μ s) Q) s) :
    loopV P mu c Q s :=
  loop_invG I μ h0 fun s h => vc_mono c (fun e s k => by
    cases e
    case normal => exact GK.intro k
    all_goals exact k) (round s h)

/-! ### Counting loops -/
/-- What holds at a loop's head: the frame's size, some slots, a plain fact. -/
def Inv (nt : Nat) (fs : List (Nat × D)) (p : Prop) (s : St) : Prop := s.nt = nt ∧ (∀ x ∈ fs, s.env x.1 = x.2) ∧ p
/-- The same with an object of the call's own. -/
def InvH (nt : Nat) (fs : List (Nat × D)) (p : (Nat → Option Ob) → (Nat → D) → (Nat → Nat) → Prop) (s : St) : Prop := s.nt = nt ∧ (∀ x ∈ fs, s.env x.1 = x.2) ∧ p s.H s.env s.n
def nextC (slot k len : Nat) (J : Nat → St → Prop) (s : St) : Prop := s.env slot = .sc (.int .i64 ((k + 1 : Nat) : Int)) ∧ k < len ∧ J (k + 1) s
def nextM (J : St → Prop) (μ : St → Nat) (m : Nat) (s : St) : Prop := J s ∧ μ s < m
theorem loop_meas {P : Program} {mu : List Nat} {c : Code} {Q : Exit → St → Prop} {s : St} (J : St → Prop) (μ : St → Nat) (h0 : J s) (round : ∀ s, J s → vc P mu c (thenQ (nextM J μ (μ s)) Q) s) : loopV P mu c Q s :=
  loop_inv J μ h0 round
/-- The same, with the state at a round's end told in other words. -/
def nextG (slot k len : Nat) (J : Nat → St → Prop) : St → Prop := GK (nextC slot k len J)
theorem loop_countG {P : Program} {mu : List Nat} {c : Code} {Q : Exit → St → Prop} {s : St} (slot len : Nat) (J : Nat → St → Prop) (h0 : s.env slot = .sc (.int .i64 0)) (h1 : J 0 s)
    (round : ∀ (k : Nat) (s : St), k ≤ len → s.env slot = .sc (.int .i64 (k : Int)) → J k s → vc P mu c (thenQ (nextG slot k len J) Q) s) : loopV P mu c Q s := by
  refine loop_invG (fun s => ∃ k : Nat, k ≤ len ∧ s.env slot = .sc (.int .i64 (k : Int)) ∧ J k s) (fun s => match s.env slot with | .sc (.int _ n) => len - n.toNat | _ => 0) ⟨0, Nat.zero_le _, h0, h1⟩ ?_
  rintro s ⟨k, hk, hs, hJ⟩
  refine vc_mono c (fun e s' h => ?_) (round k s hk hs hJ)
  cases e
  case normal =>
    refine GK.mono (fun s' h => ?_) h
    obtain ⟨h1, h2, h3⟩ := h
    refine ⟨⟨k + 1, h2, h1, h3⟩, ?_⟩
    simp only [h1, hs]
    omega
  all_goals exact h
theorem loop_count {P : Program} {mu : List Nat} {c : Code} {Q : Exit → St → Prop} {s : St} (slot len : Nat) (J : Nat → St → Prop) (h0 : s.env slot = .sc (.int .i64 0)) (h1 : J 0 s)
    (round : ∀ (k : Nat) (s : St), k ≤ len → s.env slot = .sc (.int .i64 (k : Int)) → J k s → vc P mu c (thenQ (nextC slot k len J) Q) s) : loopV P mu c Q s :=
  loop_countG slot len J h0 h1 fun k s hk hs hJ => vc_mono c (fun e s k => by
    cases e
    case normal => exact GK.intro k
    all_goals exact k) (round k s hk hs hJ)
theorem loopC {P : Program} {mu : List Nat} {c : Code} {Q : Exit → St → Prop} {s : St} : loopV P mu c Q s = loopV P mu c Q s := rfl
theorem nextC_mk {slot k len : Nat} {J : Nat → St → Prop} {s : St} (h1 : s.env slot = .sc (.int .i64 ((k + 1 : Nat) : Int))) (h2 : k < len) (h3 : J (k + 1) s) : nextC slot k len J s := ⟨h1, h2, h3⟩
theorem nn (k : Nat) : (0 ≤ (k : Int)) = True := eq_true (Int.natCast_nonneg k)
theorem wrap_succ (k : Nat) (h : (k : Int) < 9223372036854775807) : IntKind.i64.wrap ((k : Int) + 1) = ((k + 1 : Nat) : Int) := by
  have := Go.IntWalk.i64_in ((k : Int) + 1) (by omega)
  rw [this]; omega
end Go.Fw
