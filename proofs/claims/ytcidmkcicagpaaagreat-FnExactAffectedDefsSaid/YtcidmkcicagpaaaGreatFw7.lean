/-
  Trees that a call writes: a tree opened as an object of the call's own, and closed again; calls with trees in a walk. No condition.
-/
import Derived.Test.YtcidmkcicagpaaaGreatFw4
namespace Go.Fw
open Go.RowKit

theorem range_flat {α : Type} (n : Nat) (f : Nat → List α) : (List.range (n + 1)).flatMap f = f 0 ++ (List.range n).flatMap fun j => f (j + 1) := by
  rw [List.range_succ_eq_map, List.flatMap_cons, List.flatMap_map]
theorem ol_of_fn {w : World} : ∀ (ds : List D) (us : Nat → Value) (Fs : Nat → List Nat), (∀ (j : Nat) (d : D), ds[j]? = some d → T1 w d (us j) (Fs j)) →
    ∃ T, OL O1 ds ((List.range ds.length).map fun j => .sc (us j)) T ∧ (∀ te ∈ T, T1 w te.d te.u te.F) ∧ bl T = (List.range ds.length).flatMap Fs
  | [], us, Fs, _ => ⟨[], .nil, by simp, rfl⟩
  | d :: ds, us, Fs, h => by
    obtain ⟨T0, h1, h2, h3⟩ := (h 0 d rfl).opn
    obtain ⟨T, k1, k2, k3⟩ := ol_of_fn ds (fun j => us (j + 1)) (fun j => Fs (j + 1)) fun j d hd => h (j + 1) d (by simpa using hd)
    refine ⟨T0 ++ T, ?_, fun te hte => ?_, ?_⟩
    · rw [List.length_cons, List.range_succ_eq_map, List.map_cons, List.map_map]
      exact .cons h1 k1
    · rcases List.mem_append.1 hte with h | h
      · exact h2 te h
      · exact k2 te h
    · rw [bl_app, h3, k3, List.length_cons, range_flat]
theorem ol_fn {w : World} {ds es : List D} {T : List TE} (h : OL O1 ds es T) : (∀ te ∈ T, T1 w te.d te.u te.F) →
    ∃ (us : Nat → Value) (Fs : Nat → List Nat), bl T = (List.range ds.length).flatMap Fs ∧ ∀ (j : Nat) (d : D), ds[j]? = some d → es[j]? = some (.sc (us j)) ∧ T1 w d (us j) (Fs j) := by
  induction h with
  | nil => intro _; exact ⟨fun _ => undef, fun _ => [], rfl, by simp⟩
  | cons h _ ih =>
    intro hT
    obtain ⟨us, Fs, h1, h2⟩ := ih fun te k => hT te (List.mem_append_right _ k)
    cases h with
    | sc v =>
      refine ⟨fun j => match j with | 0 => v | j + 1 => us j, fun j => match j with | 0 => [] | j + 1 => Fs j, ?_, fun j d hd => ?_⟩
      · rw [List.length_cons, range_flat]; simpa using h1
      · cases j with
        | zero => simp at hd; subst hd; exact ⟨rfl, .sc v⟩
        | succ j => simpa using h2 j d (by simpa using hd)
    | sl sz rows a n c F =>
      refine ⟨fun j => match j with | 0 => .slice a n c | j + 1 => us j, fun j => match j with | 0 => F | j + 1 => Fs j, ?_, fun j d hd => ?_⟩
      · rw [List.length_cons, range_flat, ← h1]; simp [bl]
      · cases j with
        | zero => simp at hd; subst hd; exact ⟨rfl, hT ⟨.slice a n c, .sl sz rows, F⟩ (by simp)⟩
        | succ j => simpa using h2 j d (by simpa using hd)

section
variable {P : Program} {w : World} {M X : Nat → Prop} {a : Act}
/-- A tree turns to an object of the call's own. -/
theorem Rep.openM {Mr : Nat → Prop} {as : List D} {nt b cap sz : Nat} {rows : List (List D)} {vs : Array Value} {e : TypeId} {us : Nat → Value} {Fs : Nat → List Nat}
    (hr : Rep ⟨w, M, X, none⟩ Mr (fun _ => none) (stT (.sc (.slice (some ⟨b, 0, none⟩) rows.length cap) :: as) nt [⟨.slice (some ⟨b, 0, none⟩) rows.length cap, .sl sz rows, b :: (List.range rows.flatten.length).flatMap Fs⟩]) a w)
    (hb : w.heap[b]? = some (.cells vs e (0, 0))) (hc : rows.length ≤ cap) (hm : cap ≤ maxLen) (hsz : vs.size = cap * sz) (hl : ∀ r ∈ rows, r.length = sz)
    (hu : ∀ (j : Nat) (d : D), rows.flatten[j]? = some d → vs[j]? = some (us j)) (h : ∀ (j : Nat) (d : D), rows.flatten[j]? = some d → T1 w d (us j) (Fs j)) :
    ∃ cells T, OL O1 rows.flatten cells T ∧ bl T = (List.range rows.flatten.length).flatMap Fs ∧
      Rep ⟨w, M, X, some (b, cap)⟩ (fun x => M x ∨ ∃ e ∈ T, x ∈ e.F) (upd (fun _ => none) 0 (some (0, b, cap))) { env := envOf (.ms 0 0 rows.length :: as), H := upd noOb 0 (some { gen := 0, elem := e, sz, cells }), n := bump noN 0, nt, T } a w := by
  obtain ⟨T, h1, h2, h3⟩ := ol_of_fn rows.flatten us Fs h
  refine ⟨_, T, h1, h3, ?_⟩
  have hF : ∀ x, (∃ e ∈ [(⟨.slice (some ⟨b, 0, none⟩) rows.length cap, .sl sz rows, b :: (List.range rows.flatten.length).flatMap Fs⟩ : TE)], x ∈ e.F) ↔ x = b ∨ x ∈ bl T := fun x => by
    rw [h3]; simp
  have hmm : ∀ x, Mr x ↔ M x ∨ x = b ∨ x ∈ bl T := fun x => by rw [hr.mm x]; exact or_congr Iff.rfl (hF x)
  have hown : ∀ x, x = b ∨ x ∈ bl T → Bs.own ⟨w, M, X, none⟩ x := fun x k => (hr.tree _ (List.mem_singleton.2 rfl)).2 x (by
    rcases k with rfl | k
    · simp
    · rw [h3] at k; exact List.mem_cons_of_mem _ k)
  have hnd : (b :: bl T).Nodup := by
    have := hr.nd
    simpa [stT, h3] using this
  have hx : (view w Mr (fun _ => none) noN).Ext (view w (fun x => M x ∨ ∃ e ∈ T, x ∈ e.F) (upd (fun _ => none) 0 (some (0, b, cap))) (bump noN 0)) := by
    refine ⟨fun b' o u k => view_mk (view_cell k) (fun q => ?_) (fun s x c q => ?_), fun _ => Nat.zero_le _, fun _ _ _ _ k _ => absurd k (Nat.not_lt_zero _)⟩
    · refine (view_free k).1 ((hmm b').2 ?_)
      rcases q with q | q
      · exact .inl q
      · exact .inr (.inr (mem_bl.2 q))
    · refine (view_free k).1 ((hmm b').2 ?_)
      by_cases hs : s = 0
      · subst hs; rw [upd_same] at q; cases q; exact .inr (.inl rfl)
      · rw [upd_ne _ _ hs] at q; cases q
  have hlt := (Array.getElem?_eq_some_iff.1 hb).1
  refine ⟨hr.defers, hr.size, fun i => ?_, fun t ob ht => ?_, fun t x b' c k => ?_, fun t t' x b' c x' c' k k' => ?_, ⟨hr.below.os, hr.below.tape, hr.below.output, hr.below.size, hr.below.block⟩, fun x k => ⟨(hr.m0 x ((hmm x).2 ?_)).1, fun t y c k' => ?_⟩, fun x => Iff.rfl, hr.zm, fun e he => ⟨h2 e he, fun x hx => hown x (.inr (mem_bl.2 ⟨e, he, hx⟩))⟩, (List.nodup_cons.1 hnd).2, fun x k => ?_⟩
  · by_cases hi : i = 0
    · subst hi
      have h0 := hr.env 0
      show Rd _ (.ms 0 0 rows.length) _
      have h0 : Rd (view w Mr (fun _ => none) noN) (.sc (.slice (some ⟨b, 0, none⟩) rows.length cap)) (a.tmps.getD 0 undef) := h0
      generalize a.tmps.getD 0 undef = v at h0
      cases h0
      exact .ms 0 0 _ _ _ ⟨by show 0 < bump noN 0 0; rw [bump_same]; omega, hc⟩ fun b' c k => by
        have k : upd (fun _ => none) 0 (some (0, b, cap)) 0 = some (0, b', c) := k
        rw [upd_same] at k; cases k; exact ⟨rfl, rfl⟩
    · have h0 := hr.env i
      have e1 : envOf (.ms 0 0 rows.length :: as) i = (stT (.sc (.slice (some ⟨b, 0, none⟩) rows.length cap) :: as) nt [⟨.slice (some ⟨b, 0, none⟩) rows.length cap, .sl sz rows, b :: (List.range rows.flatten.length).flatMap Fs⟩]).env i := by
        show List.getD _ _ _ = List.getD _ _ _
        cases i with
        | zero => exact absurd rfl hi
        | succ i => simp
      show Rd _ (envOf (.ms 0 0 rows.length :: as) i) _
      rw [e1]
      exact Rd.mono hx h0
  · by_cases hs : t = 0
    · subst hs
      have ht : upd noOb 0 _ 0 = some ob := ht
      rw [upd_same] at ht
      cases ht
      refine ⟨by show 0 < bump noN 0 0; rw [bump_same]; omega, b, cap, vs, by show upd (fun _ => none) 0 (some (0, b, cap)) 0 = _; rw [upd_same], .of hb rfl, fun _ => hsz, hm, ?_, fun j d hd => ?_⟩
      · have := flatten_len hl
        simp only [List.length_map, List.length_range]
        rw [this, hsz]
        exact Nat.mul_le_mul_right _ hc
      · simp only [List.getElem?_map] at hd
        by_cases hj : j < rows.flatten.length
        · rw [List.getElem?_range hj] at hd
          cases hd
          exact ⟨_, hu j _ (List.getElem?_eq_getElem hj), .sc _⟩
        · rw [List.getElem?_eq_none (by simpa using hj)] at hd; cases hd
    · have ht : upd noOb 0 _ t = some ob := ht
      rw [upd_ne _ _ hs] at ht; cases ht
  · by_cases hs : t = 0
    · subst hs; rw [upd_same] at k; cases k; exact ⟨hown b (.inl rfl), hlt⟩
    · rw [upd_ne _ _ hs] at k; cases k
  · by_cases hs : t = 0
    · by_cases hs' : t' = 0
      · rw [hs, hs']
      · rw [upd_ne _ _ hs'] at k'; cases k'
    · rw [upd_ne _ _ hs] at k; cases k
  · rcases k with k | k
    · exact .inl k
    · exact .inr (.inr (mem_bl.2 k))
  · by_cases hs : t = 0
    · subst hs; rw [upd_same] at k'; cases k'
      rcases k with k | k
      · exact hr.zm b k (hown b (.inl rfl))
      · exact (List.nodup_cons.1 hnd).1 (mem_bl.2 k)
    · rw [upd_ne _ _ hs] at k'; cases k'
  · cases k
    refine ⟨by show 1 ≤ bump noN 0 0; rw [bump_same]; omega, fun b' c k => ?_⟩
    rw [upd_same] at k; cases k; rfl

/-- What a call that writes a tree ends with. -/
def closeM (T : List TE) (sz : Nat) (rows : List (List D)) (s : St) : Prop :=
  ∃ ob, s.H 0 = some ob ∧ ob.gen = 0 ∧ ob.keys = none ∧ ob.sz = sz ∧ OL O1 rows.flatten ob.cells s.T ∧ bl s.T = bl T
def retM (P : Program) (rs : List ResultVar) (T : List TE) (sz : Nat) (rows : List (List D)) (r : Value) : Exit → St → Prop
  | .normal, s => resD P s rs = some (.sc r) ∧ closeM T sz rows s
  | .ret, s => resD P s rs = some (.sc r) ∧ closeM T sz rows s
  | _, _ => False
def retN (P : Program) (rs : List ResultVar) (T : List TE) (r : Value) : Exit → St → Prop
  | .normal, s => resD P s rs = some (.sc r) ∧ s.T = T
  | .ret, s => resD P s rs = some (.sc r) ∧ s.T = T
  | _, _ => False
theorem SpM.of_vc {f : FuncId} {fn : Func} {c : Code} {as : List D} {sz : Nat} {rows rows' : List (List D)} {r : Value} {nt : Nat} (mu : List Nat) (rs : List ResultVar) (hf : P.funcs[f]? = some fn) (hb : fn.body = some c) (hn : (fn.name == "runtime.NumGoroutine") = false)
    (hnt : fn.ntmps = nt) (hrs : fn.results.toList = rs) (hle : as.length + 1 ≤ nt) (hrl : rows'.length = rows.length) (hl' : ∀ r ∈ rows', r.length = sz)
    (h0 : rows = [] → ∀ T, vc P mu c (retN P rs T r) (stT (.sl sz [] :: as) nt T))
    (h1 : rows ≠ [] → ∀ e cells T, OL O1 rows.flatten cells T → vc P mu c (retM P rs T sz rows' r) { env := envOf (.ms 0 0 rows.length :: as), H := upd noOb 0 (some { gen := 0, elem := e, sz, cells }), n := bump noN 0, nt, T }) (u : Value) (F : List Nat) :
    SpG P f (.sc u :: as) [⟨u, .sl sz rows, F⟩] [.sl sz rows'] (.sc r) := by
  subst hrs
  refine ⟨⟨fn, hf, hn, by rw [hb]; rfl⟩, rfl, fun w M vs hM hl hv ht hnd => ?_⟩
  subst hnt
  have hte := (ht _ (List.mem_singleton.2 rfl)).1
  by_cases hz : rows = []
  · subst hz
    have hz' : rows' = [] := by simpa using hrl
    subst hz'
    have hread : ∀ V, Rd V (.sl sz []) u := fun V => by
      simp only at hte
      cases hte with
      | nil => exact .nil sz
      | emp _ a cap hm => exact .emp sz a cap hm
      | sl _ _ b cap vs e us Fs hb hc hm => exact .emp sz _ cap hm
    have hr := Rep.start (as := .sl sz [] :: as) (Ts := [⟨u, .sl sz [], F⟩]) none rfl hM (by simpa using hl) (by simpa using hle) (fun i d v hd hv' => by
      cases i with
      | zero =>
        simp at hd; subst hd
        cases vs with
        | nil => simp at hv'
        | cons v0 vs =>
          simp at hv'; subst hv'
          have := hv 0 (.sc u) v0 (by simp) (by simp)
          cases this
          exact hread _
      | succ i => exact hv (i + 1) d v (by simpa using hd) hv') ht hnd
    refine calls_of_wp hf hb (wp_mono (vc_sound c _ hr (h0 rfl _)) fun e a w' ⟨s', g', M', k1, k2⟩ => ?_)
    have fin : resD P s' fn.results.toList = some (.sc r) → s'.T = [⟨u, .sl sz [], F⟩] → a.defers = [] ∧ ∃ v, (results fn a.tmps).run P w' = .ok v w' ∧ ∃ y, Ending.returned v = .returned y ∧ (mkB w M fun b => ∃ e ∈ [(⟨u, .sl sz [], F⟩ : TE)], b ∈ e.F).Ok w' ∧
        (∀ e ∈ upT [(⟨u, .sl sz [], F⟩ : TE)] [.sl sz []], T1 w' e.d e.u e.F) ∧ ∃ F', T3 w' (.sc r) y F' ∧ F'.Nodup ∧ ∀ b ∈ F', w.heap.size ≤ b := by
      intro hd hT
      obtain ⟨v, v1, v2⟩ := resD_sound k2 hd
      refine ⟨k2.defers, v, v2, v, rfl, ⟨k2.below.os, k2.below.tape, k2.below.output, k2.below.size, k2.below.block⟩, fun e he => ?_, [], ?_, by simp, by simp⟩
      · simp only [upT, List.mem_singleton] at he; subst he
        exact (k2.tree _ (by rw [hT]; simp)).1
      · cases v1; exact .one (.one (.sc _))
    cases e
    case normal => exact fin k1.1 k1.2
    case ret => exact fin k1.1 k1.2
    all_goals exact k1.elim
  · have hr := Rep.start none rfl hM hl (by simpa using hle) hv ht hnd
    simp only at hte
    cases hte with
    | nil => exact absurd rfl hz
    | emp => exact absurd rfl hz
    | sl _ _ b cap vs0 e us Fs hbl hc hm hsz h0' hlr hu hT =>
      obtain ⟨cells, T, o1, o2, hr'⟩ := hr.openM hbl hc hm hsz hlr hu hT
      refine calls_of_wp hf hb (wp_mono (vc_sound c _ hr' (h1 hz e cells T o1)) fun e' a w' ⟨s', g', M', k1, k2⟩ => ?_)
      have fin : resD P s' fn.results.toList = some (.sc r) → closeM T sz rows' s' → a.defers = [] ∧ ∃ v, (results fn a.tmps).run P w' = .ok v w' ∧ ∃ y, Ending.returned v = .returned y ∧
          (mkB w M fun x => ∃ e ∈ [(⟨.slice (some ⟨b, 0, none⟩) rows.length cap, .sl sz rows, b :: (List.range rows.flatten.length).flatMap Fs⟩ : TE)], x ∈ e.F).Ok w' ∧
          (∀ e ∈ upT [(⟨.slice (some ⟨b, 0, none⟩) rows.length cap, .sl sz rows, b :: (List.range rows.flatten.length).flatMap Fs⟩ : TE)] [.sl sz rows'], T1 w' e.d e.u e.F) ∧ ∃ F', T3 w' (.sc r) y F' ∧ F'.Nodup ∧ ∀ b ∈ F', w.heap.size ≤ b := by
        rintro hd ⟨ob, q1, q2, q3, q4, q5, q6⟩
        obtain ⟨v, v1, v2⟩ := resD_sound k2 hd
        refine ⟨k2.defers, v, v2, v, rfl, ⟨k2.below.os, k2.below.tape, k2.below.output, k2.below.size, k2.below.block⟩, fun e he => ?_, [], ?_, by simp, by simp⟩
        · simp only [upT, List.mem_singleton] at he; subst he
          obtain ⟨_, b', c', vs', hgt, hheap, hvs, hcm, hlen, hcells⟩ := k2.obj 0 ob q1
          have hgt : g' 0 = some (ob.gen, b', c') := hgt
          rw [q2] at hgt
          have hbc := (k2.og _ rfl).2 b' c' hgt
          cases hbc
          have hvs := hvs q3
          have hheap := hheap.cells q3
          rw [q4] at hvs
          obtain ⟨us', Fs', r1, r2⟩ := ol_fn (w := w') q5 fun te k => (k2.tree te k).1
          have hFF : b :: (List.range rows.flatten.length).flatMap Fs = b :: (List.range rows'.flatten.length).flatMap Fs' := by rw [← r1, q6, o2]
          show T1 w' (.sl sz rows') (.slice (some ⟨b, 0, none⟩) rows.length cap) _
          rw [hFF, ← hrl]
          refine .sl sz rows' b cap vs' ob.elem us' Fs' hheap (by omega) hm hvs h0' hl' (fun j d hj => ?_) fun j d hj => (r2 j d hj).2
          obtain ⟨u, z1, z2⟩ := hcells j _ (r2 j d hj).1
          cases z2
          exact z1
        · cases v1; exact .one (.one (.sc _))
      cases e'
      case normal => exact fin k1.1 k1.2
      case ret => exact fin k1.1 k1.2
      all_goals exact k1.elim
end
end Go.Fw
